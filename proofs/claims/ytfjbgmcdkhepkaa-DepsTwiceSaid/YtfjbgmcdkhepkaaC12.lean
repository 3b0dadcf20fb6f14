import Derived.Test.YtfjbgmcdkhepkaaC11
namespace Go.Proofs.Ytfjbgmcdkhepkaa
open Go Go.Abs Go.Proofs
set_option maxRecDepth 100000
set_option maxHeartbeats 1000000
set_option linter.unusedVariables false
set_option linter.unusedSimpArgs false
/-- A registry after so many calls -/
structure Some_ (H : Hp) (d c : Nat) (g : Int) (m k : Nat) (cnt : List Int) (all : List Ver) : Prop where
  reg : Reg H d c g cnt all
  cl : cnt.length = m
  al : all.length ≤ k
  cb : ∀ n ∈ cnt, 0 ≤ n ∧ n ≤ k
theorem modify_mem {cnt : List Int} {i : Nat} {n : Int} (h : n ∈ cnt.modify i (· + 1)) : n ∈ cnt ∨ ∃ n' ∈ cnt, n = n' + 1 := by
  obtain ⟨j, hj⟩ := List.getElem?_of_mem h
  rw [List.getElem?_modify] at hj
  cases hc : cnt[j]? with
  | none => rw [hc] at hj; cases hj
  | some n' =>
    rw [hc] at hj
    simp only [Option.map_eq_map, Option.map_some, Option.some.injEq] at hj
    split at hj
    · exact .inr ⟨n', List.mem_of_getElem? hc, hj.symm⟩
    · exact .inl (by rw [← hj]; exact List.mem_of_getElem? hc)
theorem add_some {H : Hp} {d c : Nat} {g : Int} {m k : Nat} {cnt : List Int} {all : List Ver} (R : Some_ H d c g m k cnt all) (f : Int) (x : V) (l : List (Int × Int)) (hx : IsDeps x l) (hl : l.length < 4294967296) (hk : k + 1 < 4294967296) :
    wpCall EW 11 [.ptr d 0 0, .int .i64 f, x] H (fun out H' => (∃ a b, out = .ret (.tup [.int .i64 a, .int .i64 b]) false) ∧ ∃ cnt' all', Some_ H' d c g m (k + 1) cnt' all') := by
  refine wpCall_of (add_eq R.reg f x l hx hl (by have := R.al; omega) (fun n hn => by have := R.cb n hn; omega)) ?_
  intro out H' hp
  split at hp
  · obtain ⟨rfl, e, rfl⟩ := hp
    exact ⟨⟨_, _, rfl⟩, cnt, all, R.reg.more e, R.cl, by have := R.al; omega, fun n hn => by have := R.cb n hn; omega⟩
  · obtain ⟨rfl, v, _, _, _, _, hR⟩ := hp
    refine ⟨⟨_, _, rfl⟩, _, _, hR, by rw [List.length_modify]; exact R.cl, by have := R.al; simp; omega, fun n hn => ?_⟩
    rcases modify_mem hn with hn2 | ⟨n', hn2, rfl⟩ <;> (have := R.cb _ hn2; omega)
theorem wrote_some {H : Hp} {d c : Nat} {g : Int} {m k : Nat} {cnt : List Int} {all : List Ver} (R : Some_ H d c g m k cnt all) (gl v : Int) :
    wpCall EW 14 [.ptr d 0 0, .int .i64 gl, .int .u64 v] H (fun out H' => (∃ y b, out = .ret (.tup [y, .int .i64 b]) false) ∧ ∃ cnt' all', Some_ H' d c g m k cnt' all') := by
  refine wpCall_of (wrote_eq R.reg gl v) ?_
  intro out H' hp
  split at hp
  · obtain ⟨rfl, rfl⟩ := hp
    exact ⟨⟨_, _, rfl⟩, cnt, all, R⟩
  · obtain ⟨rfl, hR, _⟩ := hp
    exact ⟨⟨_, _, rfl⟩, cnt, _, hR, R.cl, by rw [upd_length]; exact R.al, R.cb⟩
theorem drop_some {H : Hp} {d c : Nat} {g : Int} {m k : Nat} {cnt : List Int} {all : List Ver} (R : Some_ H d c g m k cnt all) (i : Int) :
    wpCall EW 17 [.ptr d 0 0, .int .i64 i] H (fun out H' => (∃ b, out = .ret (.int .i64 b) false) ∧ ∃ cnt' all', Some_ H' d c g m k cnt' all') := by
  refine wpCall_of (drop_eq R.reg i) ?_
  intro out H' hp
  split at hp
  · obtain ⟨rfl, rfl⟩ := hp
    exact ⟨⟨_, rfl⟩, cnt, all, R⟩
  · obtain ⟨rfl, hR, _⟩ := hp
    exact ⟨⟨_, rfl⟩, cnt, _, hR, R.cl, by rw [upd_length]; exact R.al, R.cb⟩
end Go.Proofs.Ytfjbgmcdkhepkaa
