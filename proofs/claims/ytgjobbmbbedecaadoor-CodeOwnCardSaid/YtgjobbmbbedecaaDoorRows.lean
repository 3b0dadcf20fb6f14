/-
  NARROWER THAN 'FOR EVERY INPUT', by the rows' own cells (each row's printed sentence says how): CodeEncodes: laid · CodeDecodes: laid · CodeBack: laid · CodeCuts: laid · CodeOwn: laid · CodeNumbers: laid · CodeTables: laid · CodeEffects: laid.
  DERIVED. THE GIVEN ROWS OF THIS SEAT. 8 by the template 'for every input the law returns true; each argument reads behind the call as it read before'; 0 by the template 'total and deterministic' (their statements: YtgjobbmbbedecaaDoorTotals.lean).
  GIVEN WITH THE SEED: the statements are not yours to turn. If you find one false, say at which input.
  Laid BY PROGRAM, IN A SANDBOX (cutbox-rows.mjs): the forced cells as the released guide's own fill.sh prints them over the translation ffcd9c147805fcdc… (all of the seat's roots in one cut). By AI agents, Wed Nov 11 2026. No macro, syntax, notation, axiom, sorry.
-/
import Derived.Test.YtgjobbmbbedecaaDoorChecked
import GoSem.Claim
import GoSem.ClaimJoined
import GoSem.ClaimMapViews
import Derived.JoinedTies
import Derived.KernelRfl
namespace Go.Proofs.YtgjobbmbbedecaaDoor
/- THE CELL 'sum', in the pinned program and in every row, IS THE sha256 OF THE DUMP (.gsa) THAT YtgjobbmbbedecaaDoorProg.lean LOADS. Nothing in Lean hashes anything: it is a label: what it is worth is what the hold of that sum in a sandbox is worth. -/
noncomputable def Tryd.pinned : Pinned := { name := "ytgjobbmbbedecaadoor", sum := "ffcd9c147805fcdc2f75fab9884c6401c07a5c1fb1f431767f90393a25244296", checked := Tryd.checked }
namespace Rows
def none {H : Type} : Left H := { results := [], args := [] }

/- WHAT THE LISTED PACKAGE-LEVEL VARIABLES READ AS WHEN THE CALL BEGINS. Each datum BY PROGRAM (the guide's laid-datum.mjs) off the statement by which the dump's own 'gosem.cut.vars' lays the variable. In a bare row this is a premise. The card (YtgjobbmbbedecaaDoorCards.lean) ties it to the program's text. -/
def laid_jacquard_code_names {H : Type} : DataW H := .agg [.lit (.string [105, 110, 116]), .lit (.string [97, 116, 111, 109]), .lit (.string [115, 116, 114]), .lit (.string [112, 114, 105, 109]), .lit (.string [112, 111, 112]), .lit (.string [108, 111, 97, 100]), .lit (.string [115, 116, 111, 114, 101]), .lit (.string [98, 111, 120]), .lit (.string [108, 111, 97, 100, 99, 101, 108, 108]), .lit (.string [115, 116, 111, 114, 101, 99, 101, 108, 108]), .lit (.string [108, 111, 97, 100, 99, 97, 112]), .lit (.string [115, 116, 111, 114, 101, 99, 97, 112]), .lit (.string [108, 111, 97, 100, 103, 108, 111, 98, 97, 108]), .lit (.string [115, 116, 111, 114, 101, 103, 108, 111, 98, 97, 108]), .lit (.string [108, 105, 115, 116]), .lit (.string [114, 101, 99]), .lit (.string [102, 117, 110]), .lit (.string [98, 105, 110]), .lit (.string [110, 111, 116]), .lit (.string [110, 101, 103]), .lit (.string [106, 117, 109, 112]), .lit (.string [102, 97, 108, 115, 101]), .lit (.string [107, 101, 101, 112, 102, 97, 108, 115, 101]), .lit (.string [107, 101, 101, 112, 116, 114, 117, 101]), .lit (.string [108, 111, 111, 112]), .lit (.string [99, 97, 108, 108]), .lit (.string [115, 112, 97, 119, 110]), .lit (.string [114, 101, 116, 117, 114, 110]), .lit (.string [116, 104, 114, 111, 119]), .lit (.string [105, 110, 100, 101, 120]), .lit (.string [115, 101, 116, 105, 110, 100, 101, 120]), .lit (.string [102, 105, 101, 108, 100]), .lit (.string [115, 101, 116, 102, 105, 101, 108, 100])]
def laid_jacquard_code_takes {H : Type} : DataW H := .agg [.lit (.int .i64 0), .lit (.int .i64 0), .lit (.int .i64 0), .lit (.int .i64 0), .lit (.int .i64 1), .lit (.int .i64 0), .lit (.int .i64 1), .lit (.int .i64 0), .lit (.int .i64 0), .lit (.int .i64 1), .lit (.int .i64 0), .lit (.int .i64 1), .lit (.int .i64 0), .lit (.int .i64 1), .lit (.int .i64 0), .lit (.int .i64 0), .lit (.int .i64 0), .lit (.int .i64 2), .lit (.int .i64 1), .lit (.int .i64 1), .lit (.int .i64 0), .lit (.int .i64 1), .lit (.int .i64 1), .lit (.int .i64 1), .lit (.int .i64 0), .lit (.int .i64 1), .lit (.int .i64 1), .lit (.int .i64 1), .lit (.int .i64 1), .lit (.int .i64 2), .lit (.int .i64 3), .lit (.int .i64 1), .lit (.int .i64 2)]
def laid_jacquard_code_puts {H : Type} : DataW H := .agg [.lit (.int .i64 1), .lit (.int .i64 1), .lit (.int .i64 1), .lit (.int .i64 1), .lit (.int .i64 0), .lit (.int .i64 1), .lit (.int .i64 0), .lit (.int .i64 0), .lit (.int .i64 1), .lit (.int .i64 0), .lit (.int .i64 1), .lit (.int .i64 0), .lit (.int .i64 1), .lit (.int .i64 0), .lit (.int .i64 1), .lit (.int .i64 1), .lit (.int .i64 1), .lit (.int .i64 1), .lit (.int .i64 1), .lit (.int .i64 1), .lit (.int .i64 0), .lit (.int .i64 0), .lit (.int .i64 0), .lit (.int .i64 0), .lit (.int .i64 0), .lit (.int .i64 1), .lit (.int .i64 1), .lit (.int .i64 0), .lit (.int .i64 0), .lit (.int .i64 1), .lit (.int .i64 0), .lit (.int .i64 1), .lit (.int .i64 0)]

/-- 'jacquardlaw10.CodeEncodes': WHATEVER THE INPUT: true; the input reads as it did. -/
def codeEncodesSpec : ChangeSpec := { name := "codeEncodes", fn := fun _ => fun
  | [d] => { results := [.lit (.bool true)], args := [d] }
  | _ => none }
def codeEncodesRow : OpenClaim := { program := "ytgjobbmbbedecaadoor", sum := "ffcd9c147805fcdc2f75fab9884c6401c07a5c1fb1f431767f90393a25244296", func := "jacquard/jacquardlaw10.CodeEncodes", spec := "codeEncodes", unfollowed := true, recurses := true, named := ["jacquard/code.takes", "jacquard/code.puts", "jacquard/code.names"], apart := false, laid := [("jacquard/code.names", laid_jacquard_code_names), ("jacquard/code.takes", laid_jacquard_code_takes), ("jacquard/code.puts", laid_jacquard_code_puts)] }
def CodeEncodesSaid : Prop := codeEncodesRow.holds Tryd.pinned (OpenSpec.ofChange codeEncodesSpec)

/-- ITS FALSE NEIGHBOUR: 'it returns false'. Refute it at one input. -/
def codeEncodesWrong : ChangeSpec := { name := "codeEncodes", fn := fun _ => fun
  | [d] => { results := [.lit (.bool false)], args := [d] }
  | _ => none }
def CodeEncodesWrongFalsely : Prop := codeEncodesRow.holds Tryd.pinned (OpenSpec.ofChange codeEncodesWrong)

/-- 'jacquardlaw10.CodeDecodes': WHATEVER THE INPUT: true; the input reads as it did. -/
def codeDecodesSpec : ChangeSpec := { name := "codeDecodes", fn := fun _ => fun
  | [d] => { results := [.lit (.bool true)], args := [d] }
  | _ => none }
def codeDecodesRow : OpenClaim := { program := "ytgjobbmbbedecaadoor", sum := "ffcd9c147805fcdc2f75fab9884c6401c07a5c1fb1f431767f90393a25244296", func := "jacquard/jacquardlaw10.CodeDecodes", spec := "codeDecodes", unfollowed := true, recurses := true, named := ["jacquard/code.takes", "jacquard/code.puts", "jacquard/code.names"], apart := false, laid := [("jacquard/code.names", laid_jacquard_code_names), ("jacquard/code.takes", laid_jacquard_code_takes), ("jacquard/code.puts", laid_jacquard_code_puts)] }
def CodeDecodesSaid : Prop := codeDecodesRow.holds Tryd.pinned (OpenSpec.ofChange codeDecodesSpec)

/-- ITS FALSE NEIGHBOUR: 'it returns false'. Refute it at one input. -/
def codeDecodesWrong : ChangeSpec := { name := "codeDecodes", fn := fun _ => fun
  | [d] => { results := [.lit (.bool false)], args := [d] }
  | _ => none }
def CodeDecodesWrongFalsely : Prop := codeDecodesRow.holds Tryd.pinned (OpenSpec.ofChange codeDecodesWrong)

/-- 'jacquardlaw10.CodeBack': WHATEVER THE INPUT: true; the input reads as it did. -/
def codeBackSpec : ChangeSpec := { name := "codeBack", fn := fun _ => fun
  | [d1, d2] => { results := [.lit (.bool true)], args := [d1, d2] }
  | _ => none }
def codeBackRow : OpenClaim := { program := "ytgjobbmbbedecaadoor", sum := "ffcd9c147805fcdc2f75fab9884c6401c07a5c1fb1f431767f90393a25244296", func := "jacquard/jacquardlaw10.CodeBack", spec := "codeBack", unfollowed := true, recurses := true, named := ["jacquard/code.takes", "jacquard/code.puts", "jacquard/code.names"], apart := false, laid := [("jacquard/code.names", laid_jacquard_code_names), ("jacquard/code.takes", laid_jacquard_code_takes), ("jacquard/code.puts", laid_jacquard_code_puts)] }
def CodeBackSaid : Prop := codeBackRow.holds Tryd.pinned (OpenSpec.ofChange codeBackSpec)

/-- ITS FALSE NEIGHBOUR: 'it returns false'. Refute it at one input. -/
def codeBackWrong : ChangeSpec := { name := "codeBack", fn := fun _ => fun
  | [d1, d2] => { results := [.lit (.bool false)], args := [d1, d2] }
  | _ => none }
def CodeBackWrongFalsely : Prop := codeBackRow.holds Tryd.pinned (OpenSpec.ofChange codeBackWrong)

/-- 'jacquardlaw10.CodeCuts': WHATEVER THE INPUT: true; the input reads as it did. -/
def codeCutsSpec : ChangeSpec := { name := "codeCuts", fn := fun _ => fun
  | [d1, d2, d3] => { results := [.lit (.bool true)], args := [d1, d2, d3] }
  | _ => none }
def codeCutsRow : OpenClaim := { program := "ytgjobbmbbedecaadoor", sum := "ffcd9c147805fcdc2f75fab9884c6401c07a5c1fb1f431767f90393a25244296", func := "jacquard/jacquardlaw10.CodeCuts", spec := "codeCuts", unfollowed := true, recurses := true, named := ["jacquard/code.takes", "jacquard/code.puts", "jacquard/code.names"], apart := false, laid := [("jacquard/code.names", laid_jacquard_code_names), ("jacquard/code.takes", laid_jacquard_code_takes), ("jacquard/code.puts", laid_jacquard_code_puts)] }
def CodeCutsSaid : Prop := codeCutsRow.holds Tryd.pinned (OpenSpec.ofChange codeCutsSpec)

/-- ITS FALSE NEIGHBOUR: 'it returns false'. Refute it at one input. -/
def codeCutsWrong : ChangeSpec := { name := "codeCuts", fn := fun _ => fun
  | [d1, d2, d3] => { results := [.lit (.bool false)], args := [d1, d2, d3] }
  | _ => none }
def CodeCutsWrongFalsely : Prop := codeCutsRow.holds Tryd.pinned (OpenSpec.ofChange codeCutsWrong)

/-- 'jacquardlaw10.CodeOwn': WHATEVER THE INPUT: true; the input reads as it did. -/
def codeOwnSpec : ChangeSpec := { name := "codeOwn", fn := fun _ => fun
  | [d] => { results := [.lit (.bool true)], args := [d] }
  | _ => none }
def codeOwnRow : OpenClaim := { program := "ytgjobbmbbedecaadoor", sum := "ffcd9c147805fcdc2f75fab9884c6401c07a5c1fb1f431767f90393a25244296", func := "jacquard/jacquardlaw10.CodeOwn", spec := "codeOwn", unfollowed := true, recurses := true, named := ["jacquard/code.takes", "jacquard/code.puts", "jacquard/code.names"], apart := false, laid := [("jacquard/code.names", laid_jacquard_code_names), ("jacquard/code.takes", laid_jacquard_code_takes), ("jacquard/code.puts", laid_jacquard_code_puts)] }
def CodeOwnSaid : Prop := codeOwnRow.holds Tryd.pinned (OpenSpec.ofChange codeOwnSpec)

/-- ITS FALSE NEIGHBOUR: 'it returns false'. Refute it at one input. -/
def codeOwnWrong : ChangeSpec := { name := "codeOwn", fn := fun _ => fun
  | [d] => { results := [.lit (.bool false)], args := [d] }
  | _ => none }
def CodeOwnWrongFalsely : Prop := codeOwnRow.holds Tryd.pinned (OpenSpec.ofChange codeOwnWrong)

/-- 'jacquardlaw10.CodeNumbers': WHATEVER THE INPUT: true; the input reads as it did. -/
def codeNumbersSpec : ChangeSpec := { name := "codeNumbers", fn := fun _ => fun
  | [d] => { results := [.lit (.bool true)], args := [d] }
  | _ => none }
def codeNumbersRow : OpenClaim := { program := "ytgjobbmbbedecaadoor", sum := "ffcd9c147805fcdc2f75fab9884c6401c07a5c1fb1f431767f90393a25244296", func := "jacquard/jacquardlaw10.CodeNumbers", spec := "codeNumbers", unfollowed := true, recurses := true, named := ["jacquard/code.takes", "jacquard/code.puts", "jacquard/code.names"], apart := false, laid := [("jacquard/code.names", laid_jacquard_code_names), ("jacquard/code.takes", laid_jacquard_code_takes), ("jacquard/code.puts", laid_jacquard_code_puts)] }
def CodeNumbersSaid : Prop := codeNumbersRow.holds Tryd.pinned (OpenSpec.ofChange codeNumbersSpec)

/-- ITS FALSE NEIGHBOUR: 'it returns false'. Refute it at one input. -/
def codeNumbersWrong : ChangeSpec := { name := "codeNumbers", fn := fun _ => fun
  | [d] => { results := [.lit (.bool false)], args := [d] }
  | _ => none }
def CodeNumbersWrongFalsely : Prop := codeNumbersRow.holds Tryd.pinned (OpenSpec.ofChange codeNumbersWrong)

/-- 'jacquardlaw10.CodeTables': WHATEVER THE INPUT: true; the input reads as it did. -/
def codeTablesSpec : ChangeSpec := { name := "codeTables", fn := fun _ => fun
  | [d1, d2] => { results := [.lit (.bool true)], args := [d1, d2] }
  | _ => none }
def codeTablesRow : OpenClaim := { program := "ytgjobbmbbedecaadoor", sum := "ffcd9c147805fcdc2f75fab9884c6401c07a5c1fb1f431767f90393a25244296", func := "jacquard/jacquardlaw10.CodeTables", spec := "codeTables", unfollowed := true, recurses := true, named := ["jacquard/code.takes", "jacquard/code.puts", "jacquard/code.names"], apart := false, laid := [("jacquard/code.names", laid_jacquard_code_names), ("jacquard/code.takes", laid_jacquard_code_takes), ("jacquard/code.puts", laid_jacquard_code_puts)] }
def CodeTablesSaid : Prop := codeTablesRow.holds Tryd.pinned (OpenSpec.ofChange codeTablesSpec)

/-- ITS FALSE NEIGHBOUR: 'it returns false'. Refute it at one input. -/
def codeTablesWrong : ChangeSpec := { name := "codeTables", fn := fun _ => fun
  | [d1, d2] => { results := [.lit (.bool false)], args := [d1, d2] }
  | _ => none }
def CodeTablesWrongFalsely : Prop := codeTablesRow.holds Tryd.pinned (OpenSpec.ofChange codeTablesWrong)

/-- 'jacquardlaw10.CodeEffects': WHATEVER THE INPUT: true; the input reads as it did. -/
def codeEffectsSpec : ChangeSpec := { name := "codeEffects", fn := fun _ => fun
  | [d1, d2, d3] => { results := [.lit (.bool true)], args := [d1, d2, d3] }
  | _ => none }
def codeEffectsRow : OpenClaim := { program := "ytgjobbmbbedecaadoor", sum := "ffcd9c147805fcdc2f75fab9884c6401c07a5c1fb1f431767f90393a25244296", func := "jacquard/jacquardlaw10.CodeEffects", spec := "codeEffects", unfollowed := true, recurses := true, named := ["jacquard/code.names", "jacquard/code.takes", "jacquard/code.puts"], apart := false, laid := [("jacquard/code.names", laid_jacquard_code_names), ("jacquard/code.takes", laid_jacquard_code_takes), ("jacquard/code.puts", laid_jacquard_code_puts)] }
def CodeEffectsSaid : Prop := codeEffectsRow.holds Tryd.pinned (OpenSpec.ofChange codeEffectsSpec)

/-- ITS FALSE NEIGHBOUR: 'it returns false'. Refute it at one input. -/
def codeEffectsWrong : ChangeSpec := { name := "codeEffects", fn := fun _ => fun
  | [d1, d2, d3] => { results := [.lit (.bool false)], args := [d1, d2, d3] }
  | _ => none }
def CodeEffectsWrongFalsely : Prop := codeEffectsRow.holds Tryd.pinned (OpenSpec.ofChange codeEffectsWrong)

/- THE SECOND FORM. 'bulk': how many values and letters a reading holds, each counted each time it is reached (what is shared counts as often as it is met; a slice's spare places count too). A statement '..UptoSaid' is the law's where the arguments, and the package variables that the reading takes, are together of bulk at most 1048576: NARROWER than '..Said'. Prove '..Said' where nothing that the law and all that it calls make is longer than what came in: it says more and counts as full. Else prove '..UptoSaid'. A law counts once. -/
mutual
def uptoBulk {H : Type} : DataW H → Nat
  | .lit (.string bytes) => bytes.length + 1
  | .lit _ => 1
  | .nil => 1
  | .ptr d => uptoBulk d + 1
  | .slice elems spare => uptoBulkAll elems + uptoBulkAll spare + 1
  | .agg parts => uptoBulkAll parts + 1
  | .iface _ d => uptoBulk d + 1
  | .map entries => uptoBulkEntries entries + 1
  | .held _ => 1
def uptoBulkAll {H : Type} : List (DataW H) → Nat
  | [] => 0
  | d :: r => uptoBulk d + uptoBulkAll r
def uptoBulkEntries {H : Type} : List (Lit × DataW H) → Nat
  | [] => 0
  | x :: r => uptoBulkEntry x + uptoBulkEntries r
def uptoBulkEntry {H : Type} : Lit × DataW H → Nat
  | (.string bytes, d) => bytes.length + uptoBulk d + 1
  | (_, d) => uptoBulk d + 1
 end
def uptoSmall : (H : Type) → List (DataW H) → Bool := fun _ ds => decide (uptoBulkAll ds ≤ 1048576)
def OpenSpec.upto (s : _root_.Go.ChangeSpec) : _root_.Go.OpenSpec := { _root_.Go.OpenSpec.ofChange s with cond := some uptoSmall }

/-- 'jacquardlaw10.CodeEncodes', WHERE WHAT IT READS IS OF BULK AT MOST 1048576: true; the input reads as it did. -/
def codeEncodesUptoRow : OpenClaim := { program := "ytgjobbmbbedecaadoor", sum := "ffcd9c147805fcdc2f75fab9884c6401c07a5c1fb1f431767f90393a25244296", func := "jacquard/jacquardlaw10.CodeEncodes", spec := "codeEncodes", unfollowed := true, recurses := true, named := ["jacquard/code.takes", "jacquard/code.puts", "jacquard/code.names"], apart := false, laid := [("jacquard/code.names", laid_jacquard_code_names), ("jacquard/code.takes", laid_jacquard_code_takes), ("jacquard/code.puts", laid_jacquard_code_puts)], narrowed := true }
def CodeEncodesUptoSaid : Prop := codeEncodesUptoRow.holds Tryd.pinned (OpenSpec.upto codeEncodesSpec)

/-- 'jacquardlaw10.CodeDecodes', WHERE WHAT IT READS IS OF BULK AT MOST 1048576: true; the input reads as it did. -/
def codeDecodesUptoRow : OpenClaim := { program := "ytgjobbmbbedecaadoor", sum := "ffcd9c147805fcdc2f75fab9884c6401c07a5c1fb1f431767f90393a25244296", func := "jacquard/jacquardlaw10.CodeDecodes", spec := "codeDecodes", unfollowed := true, recurses := true, named := ["jacquard/code.takes", "jacquard/code.puts", "jacquard/code.names"], apart := false, laid := [("jacquard/code.names", laid_jacquard_code_names), ("jacquard/code.takes", laid_jacquard_code_takes), ("jacquard/code.puts", laid_jacquard_code_puts)], narrowed := true }
def CodeDecodesUptoSaid : Prop := codeDecodesUptoRow.holds Tryd.pinned (OpenSpec.upto codeDecodesSpec)

/-- 'jacquardlaw10.CodeBack', WHERE WHAT IT READS IS OF BULK AT MOST 1048576: true; the input reads as it did. -/
def codeBackUptoRow : OpenClaim := { program := "ytgjobbmbbedecaadoor", sum := "ffcd9c147805fcdc2f75fab9884c6401c07a5c1fb1f431767f90393a25244296", func := "jacquard/jacquardlaw10.CodeBack", spec := "codeBack", unfollowed := true, recurses := true, named := ["jacquard/code.takes", "jacquard/code.puts", "jacquard/code.names"], apart := false, laid := [("jacquard/code.names", laid_jacquard_code_names), ("jacquard/code.takes", laid_jacquard_code_takes), ("jacquard/code.puts", laid_jacquard_code_puts)], narrowed := true }
def CodeBackUptoSaid : Prop := codeBackUptoRow.holds Tryd.pinned (OpenSpec.upto codeBackSpec)

/-- 'jacquardlaw10.CodeCuts', WHERE WHAT IT READS IS OF BULK AT MOST 1048576: true; the input reads as it did. -/
def codeCutsUptoRow : OpenClaim := { program := "ytgjobbmbbedecaadoor", sum := "ffcd9c147805fcdc2f75fab9884c6401c07a5c1fb1f431767f90393a25244296", func := "jacquard/jacquardlaw10.CodeCuts", spec := "codeCuts", unfollowed := true, recurses := true, named := ["jacquard/code.takes", "jacquard/code.puts", "jacquard/code.names"], apart := false, laid := [("jacquard/code.names", laid_jacquard_code_names), ("jacquard/code.takes", laid_jacquard_code_takes), ("jacquard/code.puts", laid_jacquard_code_puts)], narrowed := true }
def CodeCutsUptoSaid : Prop := codeCutsUptoRow.holds Tryd.pinned (OpenSpec.upto codeCutsSpec)

/-- 'jacquardlaw10.CodeOwn', WHERE WHAT IT READS IS OF BULK AT MOST 1048576: true; the input reads as it did. -/
def codeOwnUptoRow : OpenClaim := { program := "ytgjobbmbbedecaadoor", sum := "ffcd9c147805fcdc2f75fab9884c6401c07a5c1fb1f431767f90393a25244296", func := "jacquard/jacquardlaw10.CodeOwn", spec := "codeOwn", unfollowed := true, recurses := true, named := ["jacquard/code.takes", "jacquard/code.puts", "jacquard/code.names"], apart := false, laid := [("jacquard/code.names", laid_jacquard_code_names), ("jacquard/code.takes", laid_jacquard_code_takes), ("jacquard/code.puts", laid_jacquard_code_puts)], narrowed := true }
def CodeOwnUptoSaid : Prop := codeOwnUptoRow.holds Tryd.pinned (OpenSpec.upto codeOwnSpec)

/-- 'jacquardlaw10.CodeNumbers', WHERE WHAT IT READS IS OF BULK AT MOST 1048576: true; the input reads as it did. -/
def codeNumbersUptoRow : OpenClaim := { program := "ytgjobbmbbedecaadoor", sum := "ffcd9c147805fcdc2f75fab9884c6401c07a5c1fb1f431767f90393a25244296", func := "jacquard/jacquardlaw10.CodeNumbers", spec := "codeNumbers", unfollowed := true, recurses := true, named := ["jacquard/code.takes", "jacquard/code.puts", "jacquard/code.names"], apart := false, laid := [("jacquard/code.names", laid_jacquard_code_names), ("jacquard/code.takes", laid_jacquard_code_takes), ("jacquard/code.puts", laid_jacquard_code_puts)], narrowed := true }
def CodeNumbersUptoSaid : Prop := codeNumbersUptoRow.holds Tryd.pinned (OpenSpec.upto codeNumbersSpec)

/-- 'jacquardlaw10.CodeTables', WHERE WHAT IT READS IS OF BULK AT MOST 1048576: true; the input reads as it did. -/
def codeTablesUptoRow : OpenClaim := { program := "ytgjobbmbbedecaadoor", sum := "ffcd9c147805fcdc2f75fab9884c6401c07a5c1fb1f431767f90393a25244296", func := "jacquard/jacquardlaw10.CodeTables", spec := "codeTables", unfollowed := true, recurses := true, named := ["jacquard/code.takes", "jacquard/code.puts", "jacquard/code.names"], apart := false, laid := [("jacquard/code.names", laid_jacquard_code_names), ("jacquard/code.takes", laid_jacquard_code_takes), ("jacquard/code.puts", laid_jacquard_code_puts)], narrowed := true }
def CodeTablesUptoSaid : Prop := codeTablesUptoRow.holds Tryd.pinned (OpenSpec.upto codeTablesSpec)

/-- 'jacquardlaw10.CodeEffects', WHERE WHAT IT READS IS OF BULK AT MOST 1048576: true; the input reads as it did. -/
def codeEffectsUptoRow : OpenClaim := { program := "ytgjobbmbbedecaadoor", sum := "ffcd9c147805fcdc2f75fab9884c6401c07a5c1fb1f431767f90393a25244296", func := "jacquard/jacquardlaw10.CodeEffects", spec := "codeEffects", unfollowed := true, recurses := true, named := ["jacquard/code.names", "jacquard/code.takes", "jacquard/code.puts"], apart := false, laid := [("jacquard/code.names", laid_jacquard_code_names), ("jacquard/code.takes", laid_jacquard_code_takes), ("jacquard/code.puts", laid_jacquard_code_puts)], narrowed := true }
def CodeEffectsUptoSaid : Prop := codeEffectsUptoRow.holds Tryd.pinned (OpenSpec.upto codeEffectsSpec)

end Rows
end Go.Proofs.YtgjobbmbbedecaaDoor
