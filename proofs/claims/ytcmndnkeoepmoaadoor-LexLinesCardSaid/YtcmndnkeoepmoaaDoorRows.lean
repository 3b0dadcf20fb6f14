/-
  NARROWER THAN 'FOR EVERY INPUT', by the rows' own cells (each row's printed sentence says how): LexCuts: laid · LexNames: laid · LexBounds: laid · LexLines: laid · LexQuotes: laid · LexNumbers: laid.
  DERIVED. THE GIVEN ROWS OF THIS SEAT. 6 by the template 'for every input the law returns true; each argument reads behind the call as it read before'; 0 by the template 'total and deterministic' (their statements: YtcmndnkeoepmoaaDoorTotals.lean).
  GIVEN WITH THE SEED: the statements are not yours to turn. If you find one false, say at which input.
  Laid BY PROGRAM, IN A SANDBOX (cutbox-rows.mjs): the forced cells as the released guide's own fill.sh prints them over the translation 1fba7c2b0b2de496… (all of the seat's roots in one cut). By AI agents, Wed Nov 11 2026. No macro, syntax, notation, axiom, sorry.
-/
import Derived.Test.YtcmndnkeoepmoaaDoorChecked
import GoSem.Claim
import GoSem.ClaimJoined
import GoSem.ClaimMapViews
import Derived.JoinedTies
import Derived.KernelRfl
namespace Go.Proofs.YtcmndnkeoepmoaaDoor
/- THE CELL 'sum', in the pinned program and in every row, IS THE sha256 OF THE DUMP (.gsa) THAT YtcmndnkeoepmoaaDoorProg.lean LOADS. Nothing in Lean hashes anything: it is a label: what it is worth is what the hold of that sum in a sandbox is worth. -/
noncomputable def Tryd.pinned : Pinned := { name := "ytcmndnkeoepmoaadoor", sum := "1fba7c2b0b2de496a22a1aa9ab03a93bf49fff8f16c5e4757d706f8f2521ada1", checked := Tryd.checked }
namespace Rows
def none {H : Type} : Left H := { results := [], args := [] }

/- WHAT THE LISTED PACKAGE-LEVEL VARIABLES READ AS WHEN THE CALL BEGINS. Each datum BY PROGRAM (the guide's laid-datum.mjs) off the statement by which the dump's own 'gosem.cut.vars' lays the variable. In a bare row this is a premise. The card (YtcmndnkeoepmoaaDoorCards.lean) ties it to the program's text. -/
def laid_jacquard_lex_signs {H : Type} : DataW H := .agg [.lit (.string [61, 61]), .lit (.string [33, 61]), .lit (.string [60, 61]), .lit (.string [62, 61]), .lit (.string [43]), .lit (.string [45]), .lit (.string [42]), .lit (.string [47]), .lit (.string [37]), .lit (.string [60]), .lit (.string [62]), .lit (.string [61]), .lit (.string [40]), .lit (.string [41]), .lit (.string [91]), .lit (.string [93]), .lit (.string [123]), .lit (.string [125]), .lit (.string [44]), .lit (.string [59]), .lit (.string [58]), .lit (.string [46])]

/-- 'jacquardlaw05.LexCuts': WHATEVER THE INPUT: true; the input reads as it did. -/
def lexCutsSpec : ChangeSpec := { name := "lexCuts", fn := fun _ => fun
  | [d] => { results := [.lit (.bool true)], args := [d] }
  | _ => none }
def lexCutsRow : OpenClaim := { program := "ytcmndnkeoepmoaadoor", sum := "1fba7c2b0b2de496a22a1aa9ab03a93bf49fff8f16c5e4757d706f8f2521ada1", func := "jacquard/jacquardlaw05.LexCuts", spec := "lexCuts", unfollowed := true, recurses := true, named := ["jacquard/lex.signs"], apart := false, laid := [("jacquard/lex.signs", laid_jacquard_lex_signs)] }
def LexCutsSaid : Prop := lexCutsRow.holds Tryd.pinned (OpenSpec.ofChange lexCutsSpec)

/-- ITS FALSE NEIGHBOUR: 'it returns false'. Refute it at one input. -/
def lexCutsWrong : ChangeSpec := { name := "lexCuts", fn := fun _ => fun
  | [d] => { results := [.lit (.bool false)], args := [d] }
  | _ => none }
def LexCutsWrongFalsely : Prop := lexCutsRow.holds Tryd.pinned (OpenSpec.ofChange lexCutsWrong)

/-- 'jacquardlaw05.LexNames': WHATEVER THE INPUT: true; the input reads as it did. -/
def lexNamesSpec : ChangeSpec := { name := "lexNames", fn := fun _ => fun
  | [d] => { results := [.lit (.bool true)], args := [d] }
  | _ => none }
def lexNamesRow : OpenClaim := { program := "ytcmndnkeoepmoaadoor", sum := "1fba7c2b0b2de496a22a1aa9ab03a93bf49fff8f16c5e4757d706f8f2521ada1", func := "jacquard/jacquardlaw05.LexNames", spec := "lexNames", unfollowed := true, recurses := true, named := ["jacquard/lex.signs"], apart := false, laid := [("jacquard/lex.signs", laid_jacquard_lex_signs)] }
def LexNamesSaid : Prop := lexNamesRow.holds Tryd.pinned (OpenSpec.ofChange lexNamesSpec)

/-- ITS FALSE NEIGHBOUR: 'it returns false'. Refute it at one input. -/
def lexNamesWrong : ChangeSpec := { name := "lexNames", fn := fun _ => fun
  | [d] => { results := [.lit (.bool false)], args := [d] }
  | _ => none }
def LexNamesWrongFalsely : Prop := lexNamesRow.holds Tryd.pinned (OpenSpec.ofChange lexNamesWrong)

/-- 'jacquardlaw05.LexBounds': WHATEVER THE INPUT: true; the input reads as it did. -/
def lexBoundsSpec : ChangeSpec := { name := "lexBounds", fn := fun _ => fun
  | [d1, d2] => { results := [.lit (.bool true)], args := [d1, d2] }
  | _ => none }
def lexBoundsRow : OpenClaim := { program := "ytcmndnkeoepmoaadoor", sum := "1fba7c2b0b2de496a22a1aa9ab03a93bf49fff8f16c5e4757d706f8f2521ada1", func := "jacquard/jacquardlaw05.LexBounds", spec := "lexBounds", unfollowed := true, recurses := true, named := ["jacquard/lex.signs"], apart := false, laid := [("jacquard/lex.signs", laid_jacquard_lex_signs)] }
def LexBoundsSaid : Prop := lexBoundsRow.holds Tryd.pinned (OpenSpec.ofChange lexBoundsSpec)

/-- ITS FALSE NEIGHBOUR: 'it returns false'. Refute it at one input. -/
def lexBoundsWrong : ChangeSpec := { name := "lexBounds", fn := fun _ => fun
  | [d1, d2] => { results := [.lit (.bool false)], args := [d1, d2] }
  | _ => none }
def LexBoundsWrongFalsely : Prop := lexBoundsRow.holds Tryd.pinned (OpenSpec.ofChange lexBoundsWrong)

/-- 'jacquardlaw05.LexLines': WHATEVER THE INPUT: true; the input reads as it did. -/
def lexLinesSpec : ChangeSpec := { name := "lexLines", fn := fun _ => fun
  | [d1, d2] => { results := [.lit (.bool true)], args := [d1, d2] }
  | _ => none }
def lexLinesRow : OpenClaim := { program := "ytcmndnkeoepmoaadoor", sum := "1fba7c2b0b2de496a22a1aa9ab03a93bf49fff8f16c5e4757d706f8f2521ada1", func := "jacquard/jacquardlaw05.LexLines", spec := "lexLines", unfollowed := true, recurses := true, named := ["jacquard/lex.signs"], apart := false, laid := [("jacquard/lex.signs", laid_jacquard_lex_signs)] }
def LexLinesSaid : Prop := lexLinesRow.holds Tryd.pinned (OpenSpec.ofChange lexLinesSpec)

/-- ITS FALSE NEIGHBOUR: 'it returns false'. Refute it at one input. -/
def lexLinesWrong : ChangeSpec := { name := "lexLines", fn := fun _ => fun
  | [d1, d2] => { results := [.lit (.bool false)], args := [d1, d2] }
  | _ => none }
def LexLinesWrongFalsely : Prop := lexLinesRow.holds Tryd.pinned (OpenSpec.ofChange lexLinesWrong)

/-- 'jacquardlaw05.LexQuotes': WHATEVER THE INPUT: true; the input reads as it did. -/
def lexQuotesSpec : ChangeSpec := { name := "lexQuotes", fn := fun _ => fun
  | [d] => { results := [.lit (.bool true)], args := [d] }
  | _ => none }
def lexQuotesRow : OpenClaim := { program := "ytcmndnkeoepmoaadoor", sum := "1fba7c2b0b2de496a22a1aa9ab03a93bf49fff8f16c5e4757d706f8f2521ada1", func := "jacquard/jacquardlaw05.LexQuotes", spec := "lexQuotes", unfollowed := true, recurses := true, named := ["jacquard/lex.signs"], apart := false, laid := [("jacquard/lex.signs", laid_jacquard_lex_signs)] }
def LexQuotesSaid : Prop := lexQuotesRow.holds Tryd.pinned (OpenSpec.ofChange lexQuotesSpec)

/-- ITS FALSE NEIGHBOUR: 'it returns false'. Refute it at one input. -/
def lexQuotesWrong : ChangeSpec := { name := "lexQuotes", fn := fun _ => fun
  | [d] => { results := [.lit (.bool false)], args := [d] }
  | _ => none }
def LexQuotesWrongFalsely : Prop := lexQuotesRow.holds Tryd.pinned (OpenSpec.ofChange lexQuotesWrong)

/-- 'jacquardlaw05.LexNumbers': WHATEVER THE INPUT: true; the input reads as it did. -/
def lexNumbersSpec : ChangeSpec := { name := "lexNumbers", fn := fun _ => fun
  | [d] => { results := [.lit (.bool true)], args := [d] }
  | _ => none }
def lexNumbersRow : OpenClaim := { program := "ytcmndnkeoepmoaadoor", sum := "1fba7c2b0b2de496a22a1aa9ab03a93bf49fff8f16c5e4757d706f8f2521ada1", func := "jacquard/jacquardlaw05.LexNumbers", spec := "lexNumbers", unfollowed := true, recurses := true, named := ["jacquard/lex.signs"], apart := false, laid := [("jacquard/lex.signs", laid_jacquard_lex_signs)] }
def LexNumbersSaid : Prop := lexNumbersRow.holds Tryd.pinned (OpenSpec.ofChange lexNumbersSpec)

/-- ITS FALSE NEIGHBOUR: 'it returns false'. Refute it at one input. -/
def lexNumbersWrong : ChangeSpec := { name := "lexNumbers", fn := fun _ => fun
  | [d] => { results := [.lit (.bool false)], args := [d] }
  | _ => none }
def LexNumbersWrongFalsely : Prop := lexNumbersRow.holds Tryd.pinned (OpenSpec.ofChange lexNumbersWrong)

/- THE SECOND FORM. 'bulk': how many values and letters a reading holds, each counted each time it is reached (what is shared counts as often as it is met; a slice's spare places count too). A statement '..UptoSaid' is the law's where the arguments, and the package variables that the reading takes, are together of bulk at most 1048576: NARROWER than '..Said'. Prove '..Said' where nothing that the law and all that it calls make is longer than what came in: it says more and counts as full. Else prove '..UptoSaid'. A law counts once. -/
mutual
def uptoBulk {H : Type} : DataW H → Nat
  | .lit (.string bytes) => bytes.length + 1
  | .lit _ => 1
  | .nil => 1
  | .ptr d => uptoBulk d + 1
  | .slice elems spare => uptoBulkAll elems + uptoBulkAll spare + 1
  | .agg parts => uptoBulkAll parts + 1
  | .iface _ d => uptoBulk d + 1
  | .map entries => uptoBulkEntries entries + 1
  | .held _ => 1
def uptoBulkAll {H : Type} : List (DataW H) → Nat
  | [] => 0
  | d :: r => uptoBulk d + uptoBulkAll r
def uptoBulkEntries {H : Type} : List (Lit × DataW H) → Nat
  | [] => 0
  | x :: r => uptoBulkEntry x + uptoBulkEntries r
def uptoBulkEntry {H : Type} : Lit × DataW H → Nat
  | (.string bytes, d) => bytes.length + uptoBulk d + 1
  | (_, d) => uptoBulk d + 1
 end
def uptoSmall : (H : Type) → List (DataW H) → Bool := fun _ ds => decide (uptoBulkAll ds ≤ 1048576)
def OpenSpec.upto (s : _root_.Go.ChangeSpec) : _root_.Go.OpenSpec := { _root_.Go.OpenSpec.ofChange s with cond := some uptoSmall }

/-- 'jacquardlaw05.LexCuts', WHERE WHAT IT READS IS OF BULK AT MOST 1048576: true; the input reads as it did. -/
def lexCutsUptoRow : OpenClaim := { program := "ytcmndnkeoepmoaadoor", sum := "1fba7c2b0b2de496a22a1aa9ab03a93bf49fff8f16c5e4757d706f8f2521ada1", func := "jacquard/jacquardlaw05.LexCuts", spec := "lexCuts", unfollowed := true, recurses := true, named := ["jacquard/lex.signs"], apart := false, laid := [("jacquard/lex.signs", laid_jacquard_lex_signs)], narrowed := true }
def LexCutsUptoSaid : Prop := lexCutsUptoRow.holds Tryd.pinned (OpenSpec.upto lexCutsSpec)

/-- 'jacquardlaw05.LexNames', WHERE WHAT IT READS IS OF BULK AT MOST 1048576: true; the input reads as it did. -/
def lexNamesUptoRow : OpenClaim := { program := "ytcmndnkeoepmoaadoor", sum := "1fba7c2b0b2de496a22a1aa9ab03a93bf49fff8f16c5e4757d706f8f2521ada1", func := "jacquard/jacquardlaw05.LexNames", spec := "lexNames", unfollowed := true, recurses := true, named := ["jacquard/lex.signs"], apart := false, laid := [("jacquard/lex.signs", laid_jacquard_lex_signs)], narrowed := true }
def LexNamesUptoSaid : Prop := lexNamesUptoRow.holds Tryd.pinned (OpenSpec.upto lexNamesSpec)

/-- 'jacquardlaw05.LexBounds', WHERE WHAT IT READS IS OF BULK AT MOST 1048576: true; the input reads as it did. -/
def lexBoundsUptoRow : OpenClaim := { program := "ytcmndnkeoepmoaadoor", sum := "1fba7c2b0b2de496a22a1aa9ab03a93bf49fff8f16c5e4757d706f8f2521ada1", func := "jacquard/jacquardlaw05.LexBounds", spec := "lexBounds", unfollowed := true, recurses := true, named := ["jacquard/lex.signs"], apart := false, laid := [("jacquard/lex.signs", laid_jacquard_lex_signs)], narrowed := true }
def LexBoundsUptoSaid : Prop := lexBoundsUptoRow.holds Tryd.pinned (OpenSpec.upto lexBoundsSpec)

/-- 'jacquardlaw05.LexLines', WHERE WHAT IT READS IS OF BULK AT MOST 1048576: true; the input reads as it did. -/
def lexLinesUptoRow : OpenClaim := { program := "ytcmndnkeoepmoaadoor", sum := "1fba7c2b0b2de496a22a1aa9ab03a93bf49fff8f16c5e4757d706f8f2521ada1", func := "jacquard/jacquardlaw05.LexLines", spec := "lexLines", unfollowed := true, recurses := true, named := ["jacquard/lex.signs"], apart := false, laid := [("jacquard/lex.signs", laid_jacquard_lex_signs)], narrowed := true }
def LexLinesUptoSaid : Prop := lexLinesUptoRow.holds Tryd.pinned (OpenSpec.upto lexLinesSpec)

/-- 'jacquardlaw05.LexQuotes', WHERE WHAT IT READS IS OF BULK AT MOST 1048576: true; the input reads as it did. -/
def lexQuotesUptoRow : OpenClaim := { program := "ytcmndnkeoepmoaadoor", sum := "1fba7c2b0b2de496a22a1aa9ab03a93bf49fff8f16c5e4757d706f8f2521ada1", func := "jacquard/jacquardlaw05.LexQuotes", spec := "lexQuotes", unfollowed := true, recurses := true, named := ["jacquard/lex.signs"], apart := false, laid := [("jacquard/lex.signs", laid_jacquard_lex_signs)], narrowed := true }
def LexQuotesUptoSaid : Prop := lexQuotesUptoRow.holds Tryd.pinned (OpenSpec.upto lexQuotesSpec)

/-- 'jacquardlaw05.LexNumbers', WHERE WHAT IT READS IS OF BULK AT MOST 1048576: true; the input reads as it did. -/
def lexNumbersUptoRow : OpenClaim := { program := "ytcmndnkeoepmoaadoor", sum := "1fba7c2b0b2de496a22a1aa9ab03a93bf49fff8f16c5e4757d706f8f2521ada1", func := "jacquard/jacquardlaw05.LexNumbers", spec := "lexNumbers", unfollowed := true, recurses := true, named := ["jacquard/lex.signs"], apart := false, laid := [("jacquard/lex.signs", laid_jacquard_lex_signs)], narrowed := true }
def LexNumbersUptoSaid : Prop := lexNumbersUptoRow.holds Tryd.pinned (OpenSpec.upto lexNumbersSpec)

end Rows
end Go.Proofs.YtcmndnkeoepmoaaDoor
