/-
  No cell of these rows narrows 'for every input' (looked for: loops, veiled, ifaces, maps, wideKeys, modest, calm, conditions, laid).
  DERIVED. THE GIVEN ROWS OF THIS SEAT. 5 by the template 'for every input the law returns true; each argument reads behind the call as it read before'; 0 by the template 'total and deterministic' (their statements: YtfjbgmcdkhepkaaTotals.lean).
  GIVEN WITH THE SEED: the statements are not yours to turn. If you find one false, say at which input.
  Laid BY PROGRAM, IN A SANDBOX (cutbox-rows.mjs): the forced cells as the released guide's own fill.sh prints them over the translation e93e93c12d1674ad… (all of the seat's roots in one cut). By AI agents, Wed Nov 11 2026. No macro, syntax, notation, axiom, sorry.
-/
import Derived.Test.YtfjbgmcdkhepkaaChecked
import GoSem.Claim
import GoSem.ClaimJoined
import GoSem.ClaimMapViews
import Derived.JoinedTies
import Derived.KernelRfl
namespace Go.Proofs.Ytfjbgmcdkhepkaa
/- THE CELL 'sum', in the pinned program and in every row, IS THE sha256 OF THE DUMP (.gsa) THAT YtfjbgmcdkhepkaaProg.lean LOADS. Nothing in Lean hashes anything: it is a label: what it is worth is what the hold of that sum in a sandbox is worth. -/
noncomputable def Try.pinned : Pinned := { name := "ytfjbgmcdkhepkaa", sum := "e93e93c12d1674addad4cbb73223abd8d79bb25600251a333f11fc42d0497a17", checked := Try.checked }
namespace Rows
def none {H : Type} : Left H := { results := [], args := [] }

/-- 'jacquardlaw15.DepsOwn': WHATEVER THE INPUT: true; the input reads as it did. -/
def depsOwnSpec : ChangeSpec := { name := "depsOwn", fn := fun _ => fun
  | [d1, d2] => { results := [.lit (.bool true)], args := [d1, d2] }
  | _ => none }
def depsOwnRow : OpenClaim := { program := "ytfjbgmcdkhepkaa", sum := "e93e93c12d1674addad4cbb73223abd8d79bb25600251a333f11fc42d0497a17", func := "jacquard/jacquardlaw15.DepsOwn", spec := "depsOwn", unfollowed := true, recurses := true, apart := false }
def DepsOwnSaid : Prop := depsOwnRow.holds Try.pinned (OpenSpec.ofChange depsOwnSpec)

/-- ITS FALSE NEIGHBOUR: 'it returns false'. Refute it at one input. -/
def depsOwnWrong : ChangeSpec := { name := "depsOwn", fn := fun _ => fun
  | [d1, d2] => { results := [.lit (.bool false)], args := [d1, d2] }
  | _ => none }
def DepsOwnWrongFalsely : Prop := depsOwnRow.holds Try.pinned (OpenSpec.ofChange depsOwnWrong)

/-- 'jacquardlaw15.DepsTwice': WHATEVER THE INPUT: true; the input reads as it did. -/
def depsTwiceSpec : ChangeSpec := { name := "depsTwice", fn := fun _ => fun
  | [d1, d2, d3] => { results := [.lit (.bool true)], args := [d1, d2, d3] }
  | _ => none }
def depsTwiceRow : OpenClaim := { program := "ytfjbgmcdkhepkaa", sum := "e93e93c12d1674addad4cbb73223abd8d79bb25600251a333f11fc42d0497a17", func := "jacquard/jacquardlaw15.DepsTwice", spec := "depsTwice", unfollowed := true, recurses := true, apart := false }
def DepsTwiceSaid : Prop := depsTwiceRow.holds Try.pinned (OpenSpec.ofChange depsTwiceSpec)

/-- ITS FALSE NEIGHBOUR: 'it returns false'. Refute it at one input. -/
def depsTwiceWrong : ChangeSpec := { name := "depsTwice", fn := fun _ => fun
  | [d1, d2, d3] => { results := [.lit (.bool false)], args := [d1, d2, d3] }
  | _ => none }
def DepsTwiceWrongFalsely : Prop := depsTwiceRow.holds Try.pinned (OpenSpec.ofChange depsTwiceWrong)

/-- 'jacquardlaw15.DepsPlays': WHATEVER THE INPUT: true; the input reads as it did. -/
def depsPlaysSpec : ChangeSpec := { name := "depsPlays", fn := fun _ => fun
  | [d1, d2, d3] => { results := [.lit (.bool true)], args := [d1, d2, d3] }
  | _ => none }
def depsPlaysRow : OpenClaim := { program := "ytfjbgmcdkhepkaa", sum := "e93e93c12d1674addad4cbb73223abd8d79bb25600251a333f11fc42d0497a17", func := "jacquard/jacquardlaw15.DepsPlays", spec := "depsPlays", unfollowed := true, recurses := true, apart := false }
def DepsPlaysSaid : Prop := depsPlaysRow.holds Try.pinned (OpenSpec.ofChange depsPlaysSpec)

/-- ITS FALSE NEIGHBOUR: 'it returns false'. Refute it at one input. -/
def depsPlaysWrong : ChangeSpec := { name := "depsPlays", fn := fun _ => fun
  | [d1, d2, d3] => { results := [.lit (.bool false)], args := [d1, d2, d3] }
  | _ => none }
def DepsPlaysWrongFalsely : Prop := depsPlaysRow.holds Try.pinned (OpenSpec.ofChange depsPlaysWrong)

/-- 'jacquardlaw15.DepsNils': WHATEVER THE INPUT: true; the input reads as it did. -/
def depsNilsSpec : ChangeSpec := { name := "depsNils", fn := fun _ => fun
  | [d] => { results := [.lit (.bool true)], args := [d] }
  | _ => none }
def depsNilsRow : OpenClaim := { program := "ytfjbgmcdkhepkaa", sum := "e93e93c12d1674addad4cbb73223abd8d79bb25600251a333f11fc42d0497a17", func := "jacquard/jacquardlaw15.DepsNils", spec := "depsNils", unfollowed := true, recurses := true, apart := false }
def DepsNilsSaid : Prop := depsNilsRow.holds Try.pinned (OpenSpec.ofChange depsNilsSpec)

/-- ITS FALSE NEIGHBOUR: 'it returns false'. Refute it at one input. -/
def depsNilsWrong : ChangeSpec := { name := "depsNils", fn := fun _ => fun
  | [d] => { results := [.lit (.bool false)], args := [d] }
  | _ => none }
def DepsNilsWrongFalsely : Prop := depsNilsRow.holds Try.pinned (OpenSpec.ofChange depsNilsWrong)

/-- 'jacquardlaw15.DepsTrue': WHATEVER THE INPUT: true; the input reads as it did. -/
def depsTrueSpec : ChangeSpec := { name := "depsTrue", fn := fun _ => fun
  | [d] => { results := [.lit (.bool true)], args := [d] }
  | _ => none }
def depsTrueRow : OpenClaim := { program := "ytfjbgmcdkhepkaa", sum := "e93e93c12d1674addad4cbb73223abd8d79bb25600251a333f11fc42d0497a17", func := "jacquard/jacquardlaw15.DepsTrue", spec := "depsTrue", unfollowed := true, recurses := true, apart := false }
def DepsTrueSaid : Prop := depsTrueRow.holds Try.pinned (OpenSpec.ofChange depsTrueSpec)

/-- ITS FALSE NEIGHBOUR: 'it returns false'. Refute it at one input. -/
def depsTrueWrong : ChangeSpec := { name := "depsTrue", fn := fun _ => fun
  | [d] => { results := [.lit (.bool false)], args := [d] }
  | _ => none }
def DepsTrueWrongFalsely : Prop := depsTrueRow.holds Try.pinned (OpenSpec.ofChange depsTrueWrong)

/- THE SECOND FORM. 'bulk': how many values and letters a reading holds, each counted each time it is reached (what is shared counts as often as it is met; a slice's spare places count too). A statement '..UptoSaid' is the law's where the arguments, and the package variables that the reading takes, are together of bulk at most 1048576: NARROWER than '..Said'. Prove '..Said' where nothing that the law and all that it calls make is longer than what came in: it says more and counts as full. Else prove '..UptoSaid'. A law counts once. -/
mutual
def uptoBulk {H : Type} : DataW H → Nat
  | .lit (.string bytes) => bytes.length + 1
  | .lit _ => 1
  | .nil => 1
  | .ptr d => uptoBulk d + 1
  | .slice elems spare => uptoBulkAll elems + uptoBulkAll spare + 1
  | .agg parts => uptoBulkAll parts + 1
  | .iface _ d => uptoBulk d + 1
  | .map entries => uptoBulkEntries entries + 1
  | .held _ => 1
def uptoBulkAll {H : Type} : List (DataW H) → Nat
  | [] => 0
  | d :: r => uptoBulk d + uptoBulkAll r
def uptoBulkEntries {H : Type} : List (Lit × DataW H) → Nat
  | [] => 0
  | x :: r => uptoBulkEntry x + uptoBulkEntries r
def uptoBulkEntry {H : Type} : Lit × DataW H → Nat
  | (.string bytes, d) => bytes.length + uptoBulk d + 1
  | (_, d) => uptoBulk d + 1
 end
def uptoSmall : (H : Type) → List (DataW H) → Bool := fun _ ds => decide (uptoBulkAll ds ≤ 1048576)
def OpenSpec.upto (s : _root_.Go.ChangeSpec) : _root_.Go.OpenSpec := { _root_.Go.OpenSpec.ofChange s with cond := some uptoSmall }

/-- 'jacquardlaw15.DepsOwn', WHERE WHAT IT READS IS OF BULK AT MOST 1048576: true; the input reads as it did. -/
def depsOwnUptoRow : OpenClaim := { program := "ytfjbgmcdkhepkaa", sum := "e93e93c12d1674addad4cbb73223abd8d79bb25600251a333f11fc42d0497a17", func := "jacquard/jacquardlaw15.DepsOwn", spec := "depsOwn", unfollowed := true, recurses := true, apart := false, narrowed := true }
def DepsOwnUptoSaid : Prop := depsOwnUptoRow.holds Try.pinned (OpenSpec.upto depsOwnSpec)

/-- 'jacquardlaw15.DepsTwice', WHERE WHAT IT READS IS OF BULK AT MOST 1048576: true; the input reads as it did. -/
def depsTwiceUptoRow : OpenClaim := { program := "ytfjbgmcdkhepkaa", sum := "e93e93c12d1674addad4cbb73223abd8d79bb25600251a333f11fc42d0497a17", func := "jacquard/jacquardlaw15.DepsTwice", spec := "depsTwice", unfollowed := true, recurses := true, apart := false, narrowed := true }
def DepsTwiceUptoSaid : Prop := depsTwiceUptoRow.holds Try.pinned (OpenSpec.upto depsTwiceSpec)

/-- 'jacquardlaw15.DepsPlays', WHERE WHAT IT READS IS OF BULK AT MOST 1048576: true; the input reads as it did. -/
def depsPlaysUptoRow : OpenClaim := { program := "ytfjbgmcdkhepkaa", sum := "e93e93c12d1674addad4cbb73223abd8d79bb25600251a333f11fc42d0497a17", func := "jacquard/jacquardlaw15.DepsPlays", spec := "depsPlays", unfollowed := true, recurses := true, apart := false, narrowed := true }
def DepsPlaysUptoSaid : Prop := depsPlaysUptoRow.holds Try.pinned (OpenSpec.upto depsPlaysSpec)

/-- 'jacquardlaw15.DepsNils', WHERE WHAT IT READS IS OF BULK AT MOST 1048576: true; the input reads as it did. -/
def depsNilsUptoRow : OpenClaim := { program := "ytfjbgmcdkhepkaa", sum := "e93e93c12d1674addad4cbb73223abd8d79bb25600251a333f11fc42d0497a17", func := "jacquard/jacquardlaw15.DepsNils", spec := "depsNils", unfollowed := true, recurses := true, apart := false, narrowed := true }
def DepsNilsUptoSaid : Prop := depsNilsUptoRow.holds Try.pinned (OpenSpec.upto depsNilsSpec)

/-- 'jacquardlaw15.DepsTrue', WHERE WHAT IT READS IS OF BULK AT MOST 1048576: true; the input reads as it did. -/
def depsTrueUptoRow : OpenClaim := { program := "ytfjbgmcdkhepkaa", sum := "e93e93c12d1674addad4cbb73223abd8d79bb25600251a333f11fc42d0497a17", func := "jacquard/jacquardlaw15.DepsTrue", spec := "depsTrue", unfollowed := true, recurses := true, apart := false, narrowed := true }
def DepsTrueUptoSaid : Prop := depsTrueUptoRow.holds Try.pinned (OpenSpec.upto depsTrueSpec)

end Rows
end Go.Proofs.Ytfjbgmcdkhepkaa
