import Derived.Test.YteenpfdpokekgaaH9
namespace Go.Proofs.Yteenpfdpokekgaa.PS0
open Go.RowKit Go.Proofs.YteenpfdpokekgaaW.PrintWords Go.Proofs.YteenpfdpokekgaaW.PrintLast Go.Proofs.YteenpfdpokekgaaW.PrintMore
set_option linter.unusedVariables false
set_option linter.unusedSimpArgs false
/-! What stands in a text from a place on -/
structure At (b : List Int) (i : Nat) (l : List Int) : Prop where
  drop : ∃ r, b.drop i = l ++ r
theorem At.rd {b : List Int} {i : Nat} {l : List Int} (h : At b i l) (j : Nat) (hj : j < l.length) : rd b ((i + j : Nat) : Int) = l[j] ∧ i + j < b.length := by
  obtain ⟨r, h⟩ := h.drop
  have h1 : (b.drop i).length = b.length - i := List.length_drop
  rw [h, List.length_append] at h1
  have h2 : i + j < b.length := by omega
  refine ⟨?_, h2⟩
  unfold Go.Proofs.YteenpfdpokekgaaW.PrintWords.rd
  rw [Int.toNat_natCast, List.getD_eq_getElem?_getD]
  have h3 : b[i + j]? = (b.drop i)[j]? := by rw [List.getElem?_drop]
  rw [h3, h, List.getElem?_append_left hj, List.getElem?_eq_getElem hj]
  rfl
/-- The texts of a line of each kind that repeats. -/
def lnD : List Int := [100, 114, 97, 119, 32, 55, 10]
def lnT : List Int := [116, 105, 99, 107, 32, 55, 10]
section
variable {b : List Int} {i : Nat}
theorem want_at {l : List Int} (h : At b i l) : ∀ (cs : List Int) (j : Nat), (l.drop j).take cs.length = cs → wantS b ((i + j : Nat) : Int) 0 cs = (((i + (j + cs.length) : Nat) : Int), 0)
  | [], j, hc => rfl
  | c :: cs, j, hc => by
    have hj : j < l.length := by
      have := congrArg List.length hc
      rw [List.length_take, List.length_drop, List.length_cons] at this
      omega
    rw [List.drop_eq_getElem_cons hj, List.length_cons, List.take_succ_cons] at hc
    injection hc with hc1 hc2
    obtain ⟨h1, h2⟩ := h.rd j hj
    conv => lhs; unfold wantS
    rw [if_pos rfl, if_neg]
    · have := want_at h cs (j + 1) hc2
      rw [show ((i + j : Nat) : Int) + 1 = ((i + (j + 1) : Nat) : Int) by omega, this]
      simp only [List.length_cons]
      congr 2
      omega
    · rw [h1, hc1]
      rintro (h3 | h3)
      · omega
      · exact h3 rfl
theorem digB_at {l : List Int} {j : Nat} (h : At b i l) (hj : j < l.length) (hc : 48 ≤ l[j] ∧ l[j] ≤ 57) : digB b ((i + j : Nat) : Int) = true := by
  obtain ⟨h1, h2⟩ := h.rd j hj
  unfold digB
  rw [h1]
  simp only [Bool.and_eq_true, decide_eq_true_eq]
  omega
/-- The number of a line: seven, from 5 on. -/
theorem num_seven {l : List Int} (h : At b i l) (hl : l.drop 5 = [55, 10]) (low high : Int) (h1 : low ≤ 7) (h2 : 7 ≤ high) : numS b ((i + 5 : Nat) : Int) 0 low high = (7, ((i + 6 : Nat) : Int), 0) := by
  have hlen : l.length = 7 := by have := congrArg List.length hl; rw [List.length_drop] at this; simp at this; omega
  have h55 : l[5] = 55 := by
    have : (l.drop 5)[0]? = some 55 := by rw [hl]; rfl
    rw [List.getElem?_drop, List.getElem?_eq_getElem (by omega)] at this
    exact Option.some.inj this
  obtain ⟨hr, hx⟩ := h.rd 5 (by omega)
  rw [h55] at hr
  have hm : minusB b ((i + 5 : Nat) : Int) low = false := by
    unfold minusB
    rw [hr]
    simp
  have hd : digB b ((i + 5 : Nat) : Int) = true := digB_at h (by omega) (by rw [h55]; decide)
  obtain ⟨r, hdr⟩ := h.drop
  have he : b.drop (((i + 5 : Nat) : Int)).toNat = 55 :: 10 :: r := by
    rw [Int.toNat_natCast, ← List.drop_drop, hdr, List.drop_append, hl]
    rw [show 5 - l.length = 0 by omega]
    rfl
  unfold numS
  rw [if_neg (by decide), if_neg (by rw [hm]; decide)]
  unfold numBody
  rw [if_neg (by rw [hd]; simp), if_neg (by rw [hr]; decide), he]
  have hea : eats (55 :: 10 :: r) 0 = (7, 1) := by
    unfold eats
    rw [if_pos (by decide)]
    unfold eats
    rw [if_neg (by decide)]
    rfl
  rw [hea]
  unfold numTail
  rw [if_neg (by simp only; omega)]
  simp only
  congr 1
end
theorem one_of {b : List Int} {i : Int} {es : List T40} {ds : List Int} {r : LineR} {q : Int × Int} (hR : lineS b i es.length ds = r) (hq : wantS b r.i r.e [10] = q) : oneS b i es ds = (q.1, q.2, if q.2 = 0 ∧ r.x.f0 ≠ 0 then es ++ [r.x] else es, r.ds) := by
  subst hR hq
  rfl
theorem prefB_at {b : List Int} {i : Nat} {l p : List Int} (h : At b i l) (hp : p.length ≤ l.length) : prefB (b.drop ((i : Nat) : Int).toNat) p = (U8s (l.take p.length) == U8s p) := by
  obtain ⟨r, h⟩ := h.drop
  rw [prefB_K, Int.toNat_natCast, h]
  unfold prefK
  rw [List.take_append_of_le_length hp]
  rw [decide_eq_true (by rw [List.length_append]; omega)]
  rfl
theorem one_draw {b : List Int} {i : Nat} (h : At b i lnD) (es : List T40) (ds : List Int) :
    oneS b (i : Int) es ds = if (ds.length : Int) = 65536 then ((i : Int), 3, es, ds) else (((i + 7 : Nat) : Int), 0, es, ds ++ [7]) := by
  have p1 : prefB (b.drop (i : Int).toNat) [112] = false := by rw [prefB_at h (by decide)]; decide
  have p2 : prefB (b.drop (i : Int).toNat) [116, 105] = false := by rw [prefB_at h (by decide)]; decide
  have p3 : prefB (b.drop (i : Int).toNat) [116] = false := by rw [prefB_at h (by decide)]; decide
  have hL : lineS b (i : Int) es.length ds = lineD b (i : Int) ds := by unfold lineS; rw [if_neg (by rw [p1]; decide), if_neg (by rw [p2]; decide), if_neg (by rw [p3]; decide)]
  have hw : wantS b (i : Int) 0 [100, 114, 97, 119] = (((i + 4 : Nat) : Int), 0) := by
    exact want_at h _ 0 (by decide)
  have hs : wantS b ((i + 4 : Nat) : Int) 0 [32] = (((i + 5 : Nat) : Int), 0) := by
    exact want_at h _ _ (by decide)
  by_cases hd : (ds.length : Int) = 65536
  · rw [if_pos hd]
    have hm : moreS b ((i + 4 : Nat) : Int) 0 ds.length i = ((i : Int), 3) := by
      unfold moreS
      dsimp only
      rw [hs, if_pos ⟨rfl, hd⟩]
    have hD : drawN b (i : Int) ds.length = (0, (i : Int), 3) := by
      unfold drawN
      dsimp only
      rw [hw]
      dsimp only
      rw [hm]
      rfl
    have hR : lineS b (i : Int) es.length ds = ⟨i, 3, ds, mk40 0 0 0 0 0 0⟩ := by
      rw [hL]
      unfold lineD
      rw [hD]
      rfl
    exact one_of hR rfl
  · rw [if_neg hd]
    have hm : moreS b ((i + 4 : Nat) : Int) 0 ds.length i = (((i + 5 : Nat) : Int), 0) := by
      unfold moreS
      dsimp only
      rw [hs, if_neg (fun h => hd h.2)]
    have hD : drawN b (i : Int) ds.length = (7, ((i + 6 : Nat) : Int), 0) := by
      unfold drawN
      dsimp only
      rw [hw]
      dsimp only
      rw [hm]
      exact num_seven h rfl _ _ (by decide) (by decide)
    have hn : wantS b ((i + 6 : Nat) : Int) 0 [10] = (((i + 7 : Nat) : Int), 0) := by
      exact want_at h _ _ (by decide)
    have hR : lineS b (i : Int) es.length ds = ⟨((i + 6 : Nat) : Int), 0, ds ++ [7], mk40 0 0 0 0 0 0⟩ := by
      rw [hL]
      unfold lineD
      rw [hD]
      rfl
    exact one_of hR hn
theorem one_tick {b : List Int} {i : Nat} (h : At b i lnT) (es : List T40) (ds : List Int) :
    oneS b (i : Int) es ds = if (es.length : Int) = 65536 then ((i : Int), 3, es, ds) else (((i + 7 : Nat) : Int), 0, es ++ [mk40 2 7 0 0 0 0], ds) := by
  have p1 : prefB (b.drop (i : Int).toNat) [112] = false := by rw [prefB_at h (by decide)]; decide
  have p2 : prefB (b.drop (i : Int).toNat) [116, 105] = true := by rw [prefB_at h (by decide)]; decide
  have hw : wantS b (i : Int) 0 [116, 105] = (((i + 2 : Nat) : Int), 0) := by
    exact want_at h _ 0 (by decide)
  have h99 := (h.rd 2 (by decide)).1
  have hL : lineS b (i : Int) es.length ds = lineK b ((i + 2 : Nat) : Int) 0 i es.length ds := by
    unfold lineS
    rw [if_neg (by rw [p1]; decide), if_pos p2]
    unfold lineT
    dsimp only
    rw [hw]
    dsimp only
    rw [if_neg (by rw [h99]; intro h; exact absurd h.2 (by decide))]
  have hw2 : wantS b ((i + 2 : Nat) : Int) 0 [99, 107] = (((i + 4 : Nat) : Int), 0) := by
    exact want_at h _ _ (by decide)
  have hs : wantS b ((i + 4 : Nat) : Int) 0 [32] = (((i + 5 : Nat) : Int), 0) := by
    exact want_at h _ _ (by decide)
  by_cases hd : (es.length : Int) = 65536
  · rw [if_pos hd]
    have hm : moreS b ((i + 4 : Nat) : Int) 0 es.length i = ((i : Int), 3) := by
      unfold moreS
      dsimp only
      rw [hs, if_pos ⟨rfl, hd⟩]
    have hR : lineS b (i : Int) es.length ds = ⟨i, 3, ds, mk40 2 0 0 0 0 0⟩ := by
      rw [hL]
      unfold lineK
      dsimp only
      rw [hw2]
      dsimp only
      rw [hm]
      rfl
    exact one_of hR rfl
  · rw [if_neg hd]
    have hm : moreS b ((i + 4 : Nat) : Int) 0 es.length i = (((i + 5 : Nat) : Int), 0) := by
      unfold moreS
      dsimp only
      rw [hs, if_neg (fun h => hd h.2)]
    have hN : numS b ((i + 5 : Nat) : Int) 0 0 1048576 = (7, ((i + 6 : Nat) : Int), 0) := num_seven h rfl _ _ (by decide) (by decide)
    have hn : wantS b ((i + 6 : Nat) : Int) 0 [10] = (((i + 7 : Nat) : Int), 0) := by
      exact want_at h _ _ (by decide)
    have hR : lineS b (i : Int) es.length ds = ⟨((i + 6 : Nat) : Int), 0, ds, mk40 2 7 0 0 0 0⟩ := by
      rw [hL]
      unfold lineK
      dsimp only
      rw [hw2]
      dsimp only
      rw [hm]
      dsimp only
      rw [hN]
    exact one_of hR hn
/-! A text of n lines alike -/
def reps (l : List Int) : Nat → List Int
  | 0 => []
  | n + 1 => reps l n ++ l
theorem reps_len (l : List Int) (hl : l.length = 7) : ∀ n, (reps l n).length = 7 * n
  | 0 => rfl
  | n + 1 => by unfold reps; rw [List.length_append, reps_len l hl n, hl]; omega
theorem reps_at (l : List Int) (hl : l.length = 7) : ∀ (n j : Nat), j < n → At (reps l n) (7 * j) l
  | 0, j, h => absurd h (Nat.not_lt_zero _)
  | n + 1, j, h => by
    unfold reps
    by_cases hj : j < n
    · obtain ⟨r, hr⟩ := (reps_at l hl n j hj).drop
      refine ⟨r ++ l, ?_⟩
      rw [List.drop_append_of_le_length (by rw [reps_len l hl]; omega), hr, List.append_assoc]
    · obtain rfl : j = n := by omega
      refine ⟨[], ?_⟩
      rw [List.append_nil, ← reps_len l hl j, List.drop_left]
theorem loop_draws (n : Nat) : ∀ (d j k : Nat), n - j = d → j ≤ n → j ≤ 65536 → d < k → loopS (reps lnD n) k ((7 * j : Nat) : Int) 0 [] (List.replicate j 7) = if n ≤ 65536 then (((7 * n : Nat) : Int), 0, [], List.replicate n 7) else (458752, 3, [], List.replicate 65536 7) := by
  intro d
  induction d with
  | zero =>
    intro j k h1 h2 h3 h4
    obtain rfl : j = n := by omega
    rw [if_pos h3]
    exact loopS_out _ _ _ _ _ _ (by rw [reps_len _ rfl]; omega)
  | succ d ih =>
    intro j k h1 h2 h3 h4
    obtain ⟨k, rfl⟩ : ∃ k', k = k' + 1 := ⟨k - 1, by omega⟩
    have hj : j < n := by omega
    rw [loopS_in _ _ _ _ _ (by rw [reps_len _ rfl]; omega), one_draw (reps_at lnD rfl n j hj), List.length_replicate]
    by_cases hd : (j : Int) = 65536
    · rw [if_pos hd, if_neg (by omega)]
      obtain rfl : j = 65536 := by omega
      exact loopS_out _ _ _ _ _ _ (fun h => by simp at h)
    · rw [if_neg hd]
      have := ih (j + 1) k (by omega) (by omega) (by omega) (by omega)
      rw [← this]
      dsimp only
      rw [← List.replicate_succ', show 7 * j + 7 = 7 * (j + 1) by omega]
theorem loop_ticks (n : Nat) : ∀ (d j k : Nat), n - j = d → j ≤ n → j ≤ 65536 → d < k → loopS (reps lnT n) k ((7 * j : Nat) : Int) 0 (List.replicate j (mk40 2 7 0 0 0 0)) [] = if n ≤ 65536 then (((7 * n : Nat) : Int), 0, List.replicate n (mk40 2 7 0 0 0 0), []) else (458752, 3, List.replicate 65536 (mk40 2 7 0 0 0 0), []) := by
  intro d
  induction d with
  | zero =>
    intro j k h1 h2 h3 h4
    obtain rfl : j = n := by omega
    rw [if_pos h3]
    exact loopS_out _ _ _ _ _ _ (by rw [reps_len _ rfl]; omega)
  | succ d ih =>
    intro j k h1 h2 h3 h4
    obtain ⟨k, rfl⟩ : ∃ k', k = k' + 1 := ⟨k - 1, by omega⟩
    have hj : j < n := by omega
    rw [loopS_in _ _ _ _ _ (by rw [reps_len _ rfl]; omega), one_tick (reps_at lnT rfl n j hj), List.length_replicate]
    by_cases hd : (j : Int) = 65536
    · rw [if_pos hd, if_neg (by omega)]
      obtain rfl : j = 65536 := by omega
      exact loopS_out _ _ _ _ _ _ (fun h => by simp at h)
    · rw [if_neg hd]
      have := ih (j + 1) k (by omega) (by omega) (by omega) (by omega)
      rw [← this]
      dsimp only
      rw [← List.replicate_succ', show 7 * j + 7 = 7 * (j + 1) by omega]
theorem parse_draws (n : Nat) (h : n ≤ 65538) : parseS (reps lnD n) = if n ≤ 65536 then ([], List.replicate n 7, 0, ((7 * n : Nat) : Int)) else ([], [], 3, 458752) := by
  have hl := reps_len lnD rfl n
  have := loop_draws n n 0 (7 * n + 1) (by omega) (by omega) (by omega) (by omega)
  unfold parseS
  dsimp only
  rw [if_neg (by omega), hl, show ((0 : Int)) = ((7 * 0 : Nat) : Int) by rfl, show ([] : List Int) = List.replicate 0 7 from rfl, show (((7 * 0 : Nat) : Int)) = 0 from rfl]
  have h2 : loopS (reps lnD n) (7 * n + 1) 0 0 [] (List.replicate 0 7) = _ := this
  rw [h2]
  by_cases hn : n ≤ 65536
  · simp only [if_pos hn]
    rfl
  · simp only [if_neg hn]
    rfl
theorem parse_ticks (n : Nat) (h : n ≤ 65538) : parseS (reps lnT n) = if n ≤ 65536 then (List.replicate n (mk40 2 7 0 0 0 0), [], 0, ((7 * n : Nat) : Int)) else ([], [], 3, 458752) := by
  have hl := reps_len lnT rfl n
  have := loop_ticks n n 0 (7 * n + 1) (by omega) (by omega) (by omega) (by omega)
  unfold parseS
  dsimp only
  rw [if_neg (by omega), hl]
  have h2 : loopS (reps lnT n) (7 * n + 1) 0 0 [] [] = _ := this
  rw [h2]
  by_cases hn : n ≤ 65536
  · simp only [if_pos hn]
    rfl
  · simp only [if_neg hn]
    rfl
end Go.Proofs.Yteenpfdpokekgaa.PS0
