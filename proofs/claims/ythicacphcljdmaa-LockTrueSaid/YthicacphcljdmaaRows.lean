/-
  No cell of these rows narrows 'for every input' (looked for: loops, veiled, ifaces, maps, wideKeys, modest, calm, conditions, laid).
  DERIVED. THE GIVEN ROWS OF THIS SEAT. 4 by the template 'for every input the law returns true; each argument reads behind the call as it read before'; 0 by the template 'total and deterministic' (their statements: YthicacphcljdmaaTotals.lean).
  GIVEN WITH THE SEED: the statements are not yours to turn. If you find one false, say at which input.
  Laid BY PROGRAM, IN A SANDBOX (cutbox-rows.mjs): the forced cells as the released guide's own fill.sh prints them over the translation 54e610430c7dbd6a… (all of the seat's roots in one cut). By AI agents, Wed Nov 11 2026. No macro, syntax, notation, axiom, sorry.
-/
import Derived.Test.YthicacphcljdmaaChecked
import GoSem.Claim
import GoSem.ClaimJoined
import GoSem.ClaimMapViews
import Derived.JoinedTies
import Derived.KernelRfl
namespace Go.Proofs.Ythicacphcljdmaa
/- THE CELL 'sum', in the pinned program and in every row, IS THE sha256 OF THE DUMP (.gsa) THAT YthicacphcljdmaaProg.lean LOADS. Nothing in Lean hashes anything: it is a label: what it is worth is what the hold of that sum in a sandbox is worth. -/
noncomputable def Try.pinned : Pinned := { name := "ythicacphcljdmaa", sum := "54e610430c7dbd6a91585a3fcf9ff3b0dc6bc4b58a375788492875ae07834dcb", checked := Try.checked }
namespace Rows
def none {H : Type} : Left H := { results := [], args := [] }

/-- 'jacquardlaw18.LockBounds': WHATEVER THE INPUT: true; the input reads as it did. -/
def lockBoundsSpec : ChangeSpec := { name := "lockBounds", fn := fun _ => fun
  | [d] => { results := [.lit (.bool true)], args := [d] }
  | _ => none }
def lockBoundsRow : OpenClaim := { program := "ythicacphcljdmaa", sum := "54e610430c7dbd6a91585a3fcf9ff3b0dc6bc4b58a375788492875ae07834dcb", func := "jacquard/jacquardlaw18.LockBounds", spec := "lockBounds", unfollowed := true, recurses := true, apart := false }
def LockBoundsSaid : Prop := lockBoundsRow.holds Try.pinned (OpenSpec.ofChange lockBoundsSpec)

/-- ITS FALSE NEIGHBOUR: 'it returns false'. Refute it at one input. -/
def lockBoundsWrong : ChangeSpec := { name := "lockBounds", fn := fun _ => fun
  | [d] => { results := [.lit (.bool false)], args := [d] }
  | _ => none }
def LockBoundsWrongFalsely : Prop := lockBoundsRow.holds Try.pinned (OpenSpec.ofChange lockBoundsWrong)

/-- 'jacquardlaw18.LockTrue': WHATEVER THE INPUT: true; the input reads as it did. -/
def lockTrueSpec : ChangeSpec := { name := "lockTrue", fn := fun _ => fun
  | [d] => { results := [.lit (.bool true)], args := [d] }
  | _ => none }
def lockTrueRow : OpenClaim := { program := "ythicacphcljdmaa", sum := "54e610430c7dbd6a91585a3fcf9ff3b0dc6bc4b58a375788492875ae07834dcb", func := "jacquard/jacquardlaw18.LockTrue", spec := "lockTrue", unfollowed := true, recurses := true, apart := false }
def LockTrueSaid : Prop := lockTrueRow.holds Try.pinned (OpenSpec.ofChange lockTrueSpec)

/-- ITS FALSE NEIGHBOUR: 'it returns false'. Refute it at one input. -/
def lockTrueWrong : ChangeSpec := { name := "lockTrue", fn := fun _ => fun
  | [d] => { results := [.lit (.bool false)], args := [d] }
  | _ => none }
def LockTrueWrongFalsely : Prop := lockTrueRow.holds Try.pinned (OpenSpec.ofChange lockTrueWrong)

/-- 'jacquardlaw18.LockFrees': WHATEVER THE INPUT: true; the input reads as it did. -/
def lockFreesSpec : ChangeSpec := { name := "lockFrees", fn := fun _ => fun
  | [d1, d2, d3, d4] => { results := [.lit (.bool true)], args := [d1, d2, d3, d4] }
  | _ => none }
def lockFreesRow : OpenClaim := { program := "ythicacphcljdmaa", sum := "54e610430c7dbd6a91585a3fcf9ff3b0dc6bc4b58a375788492875ae07834dcb", func := "jacquard/jacquardlaw18.LockFrees", spec := "lockFrees", unfollowed := true, recurses := true, apart := false }
def LockFreesSaid : Prop := lockFreesRow.holds Try.pinned (OpenSpec.ofChange lockFreesSpec)

/-- ITS FALSE NEIGHBOUR: 'it returns false'. Refute it at one input. -/
def lockFreesWrong : ChangeSpec := { name := "lockFrees", fn := fun _ => fun
  | [d1, d2, d3, d4] => { results := [.lit (.bool false)], args := [d1, d2, d3, d4] }
  | _ => none }
def LockFreesWrongFalsely : Prop := lockFreesRow.holds Try.pinned (OpenSpec.ofChange lockFreesWrong)

/-- 'jacquardlaw18.LockNils': WHATEVER THE INPUT: true; the input reads as it did. -/
def lockNilsSpec : ChangeSpec := { name := "lockNils", fn := fun _ => fun
  | [d] => { results := [.lit (.bool true)], args := [d] }
  | _ => none }
def lockNilsRow : OpenClaim := { program := "ythicacphcljdmaa", sum := "54e610430c7dbd6a91585a3fcf9ff3b0dc6bc4b58a375788492875ae07834dcb", func := "jacquard/jacquardlaw18.LockNils", spec := "lockNils", unfollowed := true, recurses := true, apart := false }
def LockNilsSaid : Prop := lockNilsRow.holds Try.pinned (OpenSpec.ofChange lockNilsSpec)

/-- ITS FALSE NEIGHBOUR: 'it returns false'. Refute it at one input. -/
def lockNilsWrong : ChangeSpec := { name := "lockNils", fn := fun _ => fun
  | [d] => { results := [.lit (.bool false)], args := [d] }
  | _ => none }
def LockNilsWrongFalsely : Prop := lockNilsRow.holds Try.pinned (OpenSpec.ofChange lockNilsWrong)

/- THE SECOND FORM. 'bulk': how many values and letters a reading holds, each counted each time it is reached (what is shared counts as often as it is met; a slice's spare places count too). A statement '..UptoSaid' is the law's where the arguments, and the package variables that the reading takes, are together of bulk at most 1048576: NARROWER than '..Said'. Prove '..Said' where nothing that the law and all that it calls make is longer than what came in: it says more and counts as full. Else prove '..UptoSaid'. A law counts once. -/
mutual
def uptoBulk {H : Type} : DataW H → Nat
  | .lit (.string bytes) => bytes.length + 1
  | .lit _ => 1
  | .nil => 1
  | .ptr d => uptoBulk d + 1
  | .slice elems spare => uptoBulkAll elems + uptoBulkAll spare + 1
  | .agg parts => uptoBulkAll parts + 1
  | .iface _ d => uptoBulk d + 1
  | .map entries => uptoBulkEntries entries + 1
  | .held _ => 1
def uptoBulkAll {H : Type} : List (DataW H) → Nat
  | [] => 0
  | d :: r => uptoBulk d + uptoBulkAll r
def uptoBulkEntries {H : Type} : List (Lit × DataW H) → Nat
  | [] => 0
  | x :: r => uptoBulkEntry x + uptoBulkEntries r
def uptoBulkEntry {H : Type} : Lit × DataW H → Nat
  | (.string bytes, d) => bytes.length + uptoBulk d + 1
  | (_, d) => uptoBulk d + 1
 end
def uptoSmall : (H : Type) → List (DataW H) → Bool := fun _ ds => decide (uptoBulkAll ds ≤ 1048576)
def OpenSpec.upto (s : _root_.Go.ChangeSpec) : _root_.Go.OpenSpec := { _root_.Go.OpenSpec.ofChange s with cond := some uptoSmall }

/-- 'jacquardlaw18.LockBounds', WHERE WHAT IT READS IS OF BULK AT MOST 1048576: true; the input reads as it did. -/
def lockBoundsUptoRow : OpenClaim := { program := "ythicacphcljdmaa", sum := "54e610430c7dbd6a91585a3fcf9ff3b0dc6bc4b58a375788492875ae07834dcb", func := "jacquard/jacquardlaw18.LockBounds", spec := "lockBounds", unfollowed := true, recurses := true, apart := false, narrowed := true }
def LockBoundsUptoSaid : Prop := lockBoundsUptoRow.holds Try.pinned (OpenSpec.upto lockBoundsSpec)

/-- 'jacquardlaw18.LockTrue', WHERE WHAT IT READS IS OF BULK AT MOST 1048576: true; the input reads as it did. -/
def lockTrueUptoRow : OpenClaim := { program := "ythicacphcljdmaa", sum := "54e610430c7dbd6a91585a3fcf9ff3b0dc6bc4b58a375788492875ae07834dcb", func := "jacquard/jacquardlaw18.LockTrue", spec := "lockTrue", unfollowed := true, recurses := true, apart := false, narrowed := true }
def LockTrueUptoSaid : Prop := lockTrueUptoRow.holds Try.pinned (OpenSpec.upto lockTrueSpec)

/-- 'jacquardlaw18.LockFrees', WHERE WHAT IT READS IS OF BULK AT MOST 1048576: true; the input reads as it did. -/
def lockFreesUptoRow : OpenClaim := { program := "ythicacphcljdmaa", sum := "54e610430c7dbd6a91585a3fcf9ff3b0dc6bc4b58a375788492875ae07834dcb", func := "jacquard/jacquardlaw18.LockFrees", spec := "lockFrees", unfollowed := true, recurses := true, apart := false, narrowed := true }
def LockFreesUptoSaid : Prop := lockFreesUptoRow.holds Try.pinned (OpenSpec.upto lockFreesSpec)

/-- 'jacquardlaw18.LockNils', WHERE WHAT IT READS IS OF BULK AT MOST 1048576: true; the input reads as it did. -/
def lockNilsUptoRow : OpenClaim := { program := "ythicacphcljdmaa", sum := "54e610430c7dbd6a91585a3fcf9ff3b0dc6bc4b58a375788492875ae07834dcb", func := "jacquard/jacquardlaw18.LockNils", spec := "lockNils", unfollowed := true, recurses := true, apart := false, narrowed := true }
def LockNilsUptoSaid : Prop := lockNilsUptoRow.holds Try.pinned (OpenSpec.upto lockNilsSpec)

end Rows
end Go.Proofs.Ythicacphcljdmaa
