/- A part of the proofs over this seat. -/
import Derived.Test.YthicacphcljdmaaQAbsU
namespace Go.Abs
set_option linter.unusedVariables false
set_option linter.unusedSimpArgs false
open Go.RowKit
section
variable {G0 : Gh} {W0 : World} {G : Gh} {L : Lg} {st : St} {H : Hp} {a : Act} {w : World} {P : Program} {o : Oper} {tmps : Array Value}
theorem view_AR (h : Sim G H w) {v : V} {u : Value} (hv : AR G v u) : AR G (viewV H v) u := by
  cases v <;> first | exact hv | skip
  case hr id len =>
    simp only [viewV]
    split
    · rename_i ns es he
      cases hv (by simp) with
      | hr _ _ _ _ h1 h2 => exact fun _ => ((h.row id ns es he).1 len _ h2).2
    · exact fun hn => absurd rfl hn
/-- An element of a row of trees -/
theorem VR.rsl_inv {row : List V} {u : Value} (h : VR G (.rsl row) u) : (∃ a cap, row = [] ∧ u = .slice (some a) 0 cap) ∨ ∃ (b o sz cap : Nat) (f : Nat → Nat → Value), u = .slice (some ⟨b, o, none⟩) row.length cap ∧ (∀ (i : Nat) (e : V), row[i]? = some e → e.width = sz) ∧
      (∀ (i : Nat) (e : V) (j : Nat) (c : V), row[i]? = some e → e.cells[j]? = some c → G.K b (o + i * sz + j) = some (f i j)) ∧
      (∀ (i : Nat) (e : V) (j : Nat) (c : V), row[i]? = some e → e.cells[j]? = some c → (f i j).oneCell' = true) ∧
      (∀ (i : Nat) (e : V) (j : Nat) (c : V), row[i]? = some e → e.cells[j]? = some c → AR G c (f i j)) ∧ row.length ≤ cap := by
  cases h with
  | rsl _ b o sz cap f h1 h2 h3 h4 h5 => exact .inr ⟨b, o, sz, cap, f, rfl, h1, h2, h3, h4, h5⟩
  | rsl0 a cap => exact .inl ⟨a, cap, rfl, rfl⟩
theorem VR.ept_mk {e : V} {b o : Nat} {f : Nat → Value} (h1 : ∀ j c, e.cells[j]? = some c → G.K b (o + j) = some (f j)) (h2 : ∀ j c, e.cells[j]? = some c → (f j).oneCell' = true) (h3 : ∀ j c, e.cells[j]? = some c → AR G c (f j)) :
    VR G (.ept e 0) (.pointer (some ⟨b, o, none⟩)) := VR.ept e 0 b o f h1 h2 h3
theorem indexAddr_op {E : Env} (hgl : GlOK E.gl G) (hI : Inv G0 W0 G L st H a.tmps w) {t : TypeId} {x ix : Operand} {s : Slot} (ho : o.op = .indexAddr t x ix) (h : indexAddrOp P st H t (rdG E st x) (rd st ix) = some s) :
    ∃ u, (execOp a.eval o).run P w = .ok (.value u) w ∧ SlotR G L st.b.length st.r.length s u := by
  have hA := slotG_R hgl hI.lr x
  have hX := rd_AR hI.lr ix
  generalize hv : a.eval x = v at hA
  generalize hi : a.eval ix = vi at hX
  unfold indexAddrOp at h
  split at h
  · rename_i k i e
    rw [e] at hX
    obtain rfl := (hX (by simp)).int_inv
    split at h
    · rename_i n et hk
      obtain ⟨ht, hz⟩ := ixT_arr hk
      have hrz := run_sizeOf_pos (P := P) (w := w) hz
      split at h
      · rename_i hb
        split at h <;> (try cases h) <;> (rename_i e2; rw [e2] at hA)
        · obtain ⟨a1, rfl⟩ := hA
          exact ⟨.pointer (some ⟨L.β _, i.toNat * sizeT P et, none⟩), by simp [execOp, ho, hv, hi, run_indexAt_ar ht hrz hb, Addr.add_lit, sizeT], a1, rfl⟩
        · rename_i l o'; obtain ⟨a1, rfl⟩ := hA
          exact ⟨.pointer (some ⟨L.β l, o' + i.toNat * sizeT P et, none⟩), by simp [execOp, ho, hv, hi, run_indexAt_ar ht hrz hb, Addr.add_lit, sizeT], a1, rfl⟩
        · rename_i id j o'
          cases (show VR G (.ptr id j o') v from hA) with
          | ptr _ _ _ hid => exact ⟨.pointer (some ⟨G.φ id, j * G.wd id + (o' + i.toNat * sizeT P et), none⟩), by simp [execOp, ho, hv, hi, run_indexAt_ar ht hrz hb, Addr.add_lit, sizeT, Nat.add_assoc], VR.ptr id j _ hid⟩
        · rename_i y o'
          cases (show VR G (.ept y o') v from hA) with
          | ept _ _ b o f a1 a2 a3 => exact ⟨.pointer (some ⟨b, o + (o' + i.toNat * sizeT P et), none⟩), by simp [execOp, ho, hv, hi, run_indexAt_ar ht hrz hb, Addr.add_lit, sizeT, Nat.add_assoc], VR.ept y _ b o f a1 a2 a3⟩
      · cases h
    · rename_i et hk
      obtain ⟨ht, hz⟩ := ixT_sl hk
      have hrz := run_sizeOf_pos (P := P) (w := w) hz
      have hraw := rawG_LAR hgl hI.lr x
      rw [hv] at hraw
      have hvw := view_AR hI.sim (seal_AR hI.lr hraw)
      split at h
      · rename_i row e2
        rw [e2] at hvw
        rcases (hvw (by simp)).rsl_inv with ⟨a', cap', rfl, rfl⟩ | ⟨b, o', sz, cap, f, rfl, h1, h2, h3, h4, h5⟩
        · split at h
          · simp at h
          · cases h
        split at h
        · rename_i hi0
          obtain ⟨y, hy, h6⟩ := Option.bind_eq_some_iff.1 h
          split at h6
          · rename_i hw
            cases h6
            have hlt : i.toNat < row.length := (List.getElem?_eq_some_iff.1 hy).1
            have hs : sz = sizeT P et := by rw [← h1 _ _ hy, hw]
            subst hs
            exact ⟨.pointer (some ⟨b, o' + i.toNat * sizeT P et, none⟩), by simp [execOp, ho, hv, hi, run_indexAt_sl ht hrz (⟨hi0, by omega⟩ : 0 ≤ i ∧ i < row.length), Addr.add_lit, sizeT],
              VR.ept_mk (f := f i.toNat) (fun j c hc => h2 _ _ j c hy hc) (fun j c hc => h3 _ _ j c hy hc) (fun j c hc => h4 _ _ j c hy hc)⟩
          · cases h6
        · cases h
      · rename_i id lo len e2
        rw [e2] at hvw
        cases hvw (by simp) with
        | sl _ _ _ cap hid hcap hcp =>
          split at h
          · rename_i hb
            split at h
            · rename_i es he
              obtain ⟨y, hy, h6⟩ := Option.bind_eq_some_iff.1 h
              split at h6
              · rename_i hw
                cases h6
                obtain ⟨c, E, fr, b1, b2, b3, b4, _⟩ := hI.sim.cells id es he
                have hs : G.wd id = sizeT P et := by rw [← b3 y (List.mem_of_getElem? hy), hw]
                refine ⟨.pointer (some ⟨G.φ id, (lo + i.toNat) * G.wd id + 0, none⟩), ?_, VR.ptr id _ 0 hid⟩
                simp [execOp, ho, hv, hi, run_indexAt_sl ht hrz hb, Addr.add_lit]
                rw [hs, Nat.add_mul]; rfl
              · cases h6
            · cases h
          · cases h
      · cases h
    · cases h
  · cases h
theorem run_part {t : TypeId} {cs : List V} {us : Array Value} {off : Nat} {x : V} (h : partV P t cs off = some x) (hc : CellsR G cs us.toList) : ∃ u, (part t us off).run P w = .ok u w ∧ AR G x u := by
  unfold partV at h
  cases ha : aggT P t with
  | none => rw [ha] at h; cases h
  | some q =>
    rw [ha] at h
    obtain ⟨d, hd, hr⟩ := aggT_some (w := w) ha
    cases q with
    | true =>
      simp only at h
      split at h
      · cases h
        refine ⟨.agg (us.extract off (off + sizeT P t)), by simp [part, hr, run_sizeOf hd], fun _ => ?_⟩
        have hx := VR.agg_mk ((hc.drop off).take (sizeT P t))
        have e : us.extract off (off + sizeT P t) = ((us.toList.drop off).take (sizeT P t)).toArray := by
          apply Array.ext'
          simp [Array.toList_extract, List.extract_eq_take_drop]
        rw [e]; exact hx
      · cases h
    | false =>
      simp only at h
      obtain ⟨u, hu, _, hr2⟩ := hc.get h
      exact ⟨u, by simp at hu; simp [part, hr, hu], hr2⟩
theorem field_op (hI : Inv G0 W0 G L st H a.tmps w) {t : TypeId} {x : Operand} {f : Nat} {s : V} (ho : o.op = .field t x f) (h : fieldOp P t (rd st x) f = some s) :
    ∃ u, (execOp a.eval o).run P w = .ok (.value u) w ∧ AR G s u := by
  have hX := rd_AR hI.lr x
  generalize hv : a.eval x = v at hX
  unfold fieldOp at h
  split at h
  · rename_i cs e
    rw [e] at hX
    obtain ⟨us, rfl, hc⟩ := (hX (by simp)).agg_inv
    obtain ⟨⟨off, ft⟩, h1, h2⟩ := Option.bind_eq_some_iff.1 h
    obtain ⟨u, hu, hr⟩ := run_part (w := w) h2 hc
    refine ⟨u, ?_, hr⟩
    unfold fieldT at h1
    split at h1
    · rename_i fs hu2
      obtain ⟨fd, h3, h4⟩ := Option.bind_eq_some_iff.1 h1
      split at h4
      · cases h4
      · cases h4
        simp [execOp, ho, hv, Instr.field, run_underlying hu2, h3, asAgg, hu]
    · cases h1
  · cases h
theorem index_op (hI : Inv G0 W0 G L st H a.tmps w) {t : TypeId} {x ix : Operand} {s : V} (ho : o.op = .index t x ix) (h : indexOp P t (rd st x) (rd st ix) = some s) :
    ∃ u, (execOp a.eval o).run P w = .ok (.value u) w ∧ AR G s u := by
  have hX := rd_AR hI.lr x
  have hY := rd_AR hI.lr ix
  generalize hv : a.eval x = v at hX
  generalize hi : a.eval ix = vi at hY
  unfold indexOp at h
  split at h
  · rename_i k i e
    rw [e] at hY
    obtain rfl := (hY (by simp)).int_inv
    split at h
    · rename_i s' e2
      rw [e2] at hX
      obtain rfl := (hX (by simp)).str_inv
      split at h
      · rename_i hk
        have ht := ixT_str hk
        split at h
        · rename_i b hb
          cases h
          refine ⟨.int .u8 b.toNat, ?_, fun _ => .int _ _⟩
          simp only [execOp, ho, hv, hi, Instr.index, asIntOf]
          simp [run_underlying ht, hb]
        · cases h
      · cases h
    · rename_i cs e2
      rw [e2] at hX
      obtain ⟨us, rfl, hc⟩ := (hX (by simp)).agg_inv
      split at h
      · rename_i n et hk
        obtain ⟨ht, hz⟩ := ixT_arr hk
        have hrz := run_sizeOf_pos (P := P) (w := w) hz
        split at h
        · rename_i hb
          obtain ⟨u, hu, hr⟩ := run_part (w := w) h hc
          exact ⟨u, by simp only [sizeT] at hu; simp [execOp, ho, hv, hi, Instr.index, asIntOf, run_underlying ht, hb, hrz, hu], hr⟩
        · cases h
      · cases h
    · cases h
  · cases h
theorem extract_op (hI : Inv G0 W0 G L st H a.tmps w) {x : Operand} {i : Nat} {vs : List V} {s : V} (ho : o.op = .extract x i) (hx : rd st x = .tup vs) (h : vs[i]? = some s) :
    ∃ u, (execOp a.eval o).run P w = .ok (.value u) w ∧ AR G s u := by
  have hX := rd_AR hI.lr x
  rw [hx] at hX
  generalize hv : a.eval x = v at hX
  cases hX (by simp) with
  | tup _ us h1 h2 =>
    have hi : i < us.size := by rw [h1]; exact (List.getElem?_eq_some_iff.1 h).1
    have hu : us[i]? = some us[i] := Array.getElem?_eq_getElem hi
    exact ⟨us[i], by simp [execOp, ho, hv, Instr.extract, hu], h2 i s _ h hu⟩
end
end Go.Abs
