/-
  NARROWER THAN 'FOR EVERY INPUT', by the rows' own cells (each row's printed sentence says how): FnExactFragments: laid · FnExactBreak: laid · FnText: laid · FnExactSchemaOK: laid · FnExactSuggest: laid · FnSuggest: laid.
  DERIVED. THE GIVEN ROWS OF THIS SEAT. 6 by the template 'for every input the law returns true; each argument reads behind the call as it read before'; 0 by the template 'total and deterministic' (their statements: YtndjodgcemgpfaaDoorTotals.lean).
  GIVEN WITH THE SEED: the statements are not yours to turn. If you find one false, say at which input.
  Laid BY PROGRAM, IN A SANDBOX (cutbox-rows.mjs): the forced cells as the released guide's own fill.sh prints them over the translation 9b070d6f1793bfdc… (all of the seat's roots in one cut). By AI agents, Wed Nov 11 2026. No macro, syntax, notation, axiom, sorry.
-/
import Derived.Test.YtndjodgcemgpfaaDoorChecked
import GoSem.PinnedTables
import GoSem.Claim
import GoSem.ClaimJoined
import GoSem.ClaimMapViews
import Derived.JoinedTies
import Derived.KernelRfl
namespace Go.Proofs.YtndjodgcemgpfaaDoor
/- THE CELL 'sum', in the pinned program and in every row, IS THE sha256 OF THE DUMP (.gsa) THAT YtndjodgcemgpfaaDoorProg.lean LOADS. Nothing in Lean hashes anything: it is a label: what it is worth is what the hold of that sum in a sandbox is worth. -/
noncomputable def Tryd.pinned : Pinned := { name := "ytndjodgcemgpfaadoor", sum := "9b070d6f1793bfdcaacce6b6bd398e7a8101dc5eb75f91bef505527a6891b767", checked := Tryd.checked }
namespace Rows
def none {H : Type} : Left H := { results := [], args := [] }

/- WHAT THE LISTED PACKAGE-LEVEL VARIABLES READ AS WHEN THE CALL BEGINS. Each datum BY PROGRAM (the guide's laid-datum.mjs) off the statement by which the dump's own 'gosem.cut.vars' lays the variable. In a bare row this is a premise. The card (YtndjodgcemgpfaaDoorCards.lean) ties it to the program's text. -/
def laid_unicode_utf8_acceptRanges {H : Type} : DataW H := .agg [.agg [.lit (.int .u8 128), .lit (.int .u8 191)], .agg [.lit (.int .u8 160), .lit (.int .u8 191)], .agg [.lit (.int .u8 128), .lit (.int .u8 159)], .agg [.lit (.int .u8 144), .lit (.int .u8 191)], .agg [.lit (.int .u8 128), .lit (.int .u8 143)], .agg [.lit (.int .u8 0), .lit (.int .u8 0)], .agg [.lit (.int .u8 0), .lit (.int .u8 0)], .agg [.lit (.int .u8 0), .lit (.int .u8 0)], .agg [.lit (.int .u8 0), .lit (.int .u8 0)], .agg [.lit (.int .u8 0), .lit (.int .u8 0)], .agg [.lit (.int .u8 0), .lit (.int .u8 0)], .agg [.lit (.int .u8 0), .lit (.int .u8 0)], .agg [.lit (.int .u8 0), .lit (.int .u8 0)], .agg [.lit (.int .u8 0), .lit (.int .u8 0)], .agg [.lit (.int .u8 0), .lit (.int .u8 0)], .agg [.lit (.int .u8 0), .lit (.int .u8 0)]]
/-- One of Go's own tables, pinned by name: the form's constant. -/
def laid_unicode_utf8_first : DataW Unit := Go.Pinned.utf8First

/-- 'laws.FnExactFragments': WHATEVER THE INPUT: true; the input reads as it did. -/
def fnExactFragmentsSpec : ChangeSpec := { name := "fnExactFragments", fn := fun _ => fun
  | [d1, d2] => { results := [.lit (.bool true)], args := [d1, d2] }
  | _ => none }
def fnExactFragmentsRow : OpenClaim := { program := "ytndjodgcemgpfaadoor", sum := "9b070d6f1793bfdcaacce6b6bd398e7a8101dc5eb75f91bef505527a6891b767", func := "loop.example/g00018/laws.FnExactFragments", spec := "fnExactFragments", inPlace := ["internal/abi.NoEscape"], unfollowed := true, recurses := true, named := ["unicode/utf8.first", "unicode/utf8.acceptRanges"], apart := false, laid := [("unicode/utf8.acceptRanges", laid_unicode_utf8_acceptRanges), ("unicode/utf8.first", laid_unicode_utf8_first)] }
def FnExactFragmentsSaid : Prop := fnExactFragmentsRow.holds Tryd.pinned (OpenSpec.ofChange fnExactFragmentsSpec)

/-- ITS FALSE NEIGHBOUR: 'it returns false'. Refute it at one input. -/
def fnExactFragmentsWrong : ChangeSpec := { name := "fnExactFragments", fn := fun _ => fun
  | [d1, d2] => { results := [.lit (.bool false)], args := [d1, d2] }
  | _ => none }
def FnExactFragmentsWrongFalsely : Prop := fnExactFragmentsRow.holds Tryd.pinned (OpenSpec.ofChange fnExactFragmentsWrong)

/-- 'laws.FnExactBreak': WHATEVER THE INPUT: true; the input reads as it did. -/
def fnExactBreakSpec : ChangeSpec := { name := "fnExactBreak", fn := fun _ => fun
  | [d] => { results := [.lit (.bool true)], args := [d] }
  | _ => none }
def fnExactBreakRow : OpenClaim := { program := "ytndjodgcemgpfaadoor", sum := "9b070d6f1793bfdcaacce6b6bd398e7a8101dc5eb75f91bef505527a6891b767", func := "loop.example/g00018/laws.FnExactBreak", spec := "fnExactBreak", unfollowed := true, recurses := true, named := ["unicode/utf8.first", "unicode/utf8.acceptRanges"], apart := false, laid := [("unicode/utf8.acceptRanges", laid_unicode_utf8_acceptRanges), ("unicode/utf8.first", laid_unicode_utf8_first)] }
def FnExactBreakSaid : Prop := fnExactBreakRow.holds Tryd.pinned (OpenSpec.ofChange fnExactBreakSpec)

/-- ITS FALSE NEIGHBOUR: 'it returns false'. Refute it at one input. -/
def fnExactBreakWrong : ChangeSpec := { name := "fnExactBreak", fn := fun _ => fun
  | [d] => { results := [.lit (.bool false)], args := [d] }
  | _ => none }
def FnExactBreakWrongFalsely : Prop := fnExactBreakRow.holds Tryd.pinned (OpenSpec.ofChange fnExactBreakWrong)

/-- 'laws.FnText': WHATEVER THE INPUT: true; the input reads as it did. -/
def fnTextSpec : ChangeSpec := { name := "fnText", fn := fun _ => fun
  | [d] => { results := [.lit (.bool true)], args := [d] }
  | _ => none }
def fnTextRow : OpenClaim := { program := "ytndjodgcemgpfaadoor", sum := "9b070d6f1793bfdcaacce6b6bd398e7a8101dc5eb75f91bef505527a6891b767", func := "loop.example/g00018/laws.FnText", spec := "fnText", unfollowed := true, recurses := true, named := ["unicode/utf8.first", "unicode/utf8.acceptRanges"], apart := false, laid := [("unicode/utf8.acceptRanges", laid_unicode_utf8_acceptRanges), ("unicode/utf8.first", laid_unicode_utf8_first)] }
def FnTextSaid : Prop := fnTextRow.holds Tryd.pinned (OpenSpec.ofChange fnTextSpec)

/-- ITS FALSE NEIGHBOUR: 'it returns false'. Refute it at one input. -/
def fnTextWrong : ChangeSpec := { name := "fnText", fn := fun _ => fun
  | [d] => { results := [.lit (.bool false)], args := [d] }
  | _ => none }
def FnTextWrongFalsely : Prop := fnTextRow.holds Tryd.pinned (OpenSpec.ofChange fnTextWrong)

/-- 'laws.FnExactSchemaOK': WHATEVER THE INPUT: true; the input reads as it did. -/
def fnExactSchemaOKSpec : ChangeSpec := { name := "fnExactSchemaOK", fn := fun _ => fun
  | [d] => { results := [.lit (.bool true)], args := [d] }
  | _ => none }
def fnExactSchemaOKRow : OpenClaim := { program := "ytndjodgcemgpfaadoor", sum := "9b070d6f1793bfdcaacce6b6bd398e7a8101dc5eb75f91bef505527a6891b767", func := "loop.example/g00018/laws.FnExactSchemaOK", spec := "fnExactSchemaOK", inPlace := ["internal/bytealg.IndexByteString", "internal/bytealg.IndexString"], named := ["unicode/utf8.first", "unicode/utf8.acceptRanges", "internal/bytealg.MaxLen"], apart := false, laid := [("unicode/utf8.acceptRanges", laid_unicode_utf8_acceptRanges), ("unicode/utf8.first", laid_unicode_utf8_first)] }
def FnExactSchemaOKSaid : Prop := fnExactSchemaOKRow.holds Tryd.pinned (OpenSpec.ofChange fnExactSchemaOKSpec)

/-- ITS FALSE NEIGHBOUR: 'it returns false'. Refute it at one input. -/
def fnExactSchemaOKWrong : ChangeSpec := { name := "fnExactSchemaOK", fn := fun _ => fun
  | [d] => { results := [.lit (.bool false)], args := [d] }
  | _ => none }
def FnExactSchemaOKWrongFalsely : Prop := fnExactSchemaOKRow.holds Tryd.pinned (OpenSpec.ofChange fnExactSchemaOKWrong)

/-- 'laws.FnExactSuggest': WHATEVER THE INPUT: true; the input reads as it did. -/
def fnExactSuggestSpec : ChangeSpec := { name := "fnExactSuggest", fn := fun _ => fun
  | [d1, d2, d3] => { results := [.lit (.bool true)], args := [d1, d2, d3] }
  | _ => none }
def fnExactSuggestRow : OpenClaim := { program := "ytndjodgcemgpfaadoor", sum := "9b070d6f1793bfdcaacce6b6bd398e7a8101dc5eb75f91bef505527a6891b767", func := "loop.example/g00018/laws.FnExactSuggest", spec := "fnExactSuggest", inPlace := ["internal/bytealg.abigen_runtime_cmpstring"], unfollowed := true, recurses := true, named := ["unicode/utf8.first", "unicode/utf8.acceptRanges"], apart := false, laid := [("unicode/utf8.acceptRanges", laid_unicode_utf8_acceptRanges), ("unicode/utf8.first", laid_unicode_utf8_first)] }
def FnExactSuggestSaid : Prop := fnExactSuggestRow.holds Tryd.pinned (OpenSpec.ofChange fnExactSuggestSpec)

/-- ITS FALSE NEIGHBOUR: 'it returns false'. Refute it at one input. -/
def fnExactSuggestWrong : ChangeSpec := { name := "fnExactSuggest", fn := fun _ => fun
  | [d1, d2, d3] => { results := [.lit (.bool false)], args := [d1, d2, d3] }
  | _ => none }
def FnExactSuggestWrongFalsely : Prop := fnExactSuggestRow.holds Tryd.pinned (OpenSpec.ofChange fnExactSuggestWrong)

/-- 'laws.FnSuggest': WHATEVER THE INPUT: true; the input reads as it did. -/
def fnSuggestSpec : ChangeSpec := { name := "fnSuggest", fn := fun _ => fun
  | [d] => { results := [.lit (.bool true)], args := [d] }
  | _ => none }
def fnSuggestRow : OpenClaim := { program := "ytndjodgcemgpfaadoor", sum := "9b070d6f1793bfdcaacce6b6bd398e7a8101dc5eb75f91bef505527a6891b767", func := "loop.example/g00018/laws.FnSuggest", spec := "fnSuggest", inPlace := ["internal/bytealg.abigen_runtime_cmpstring"], unfollowed := true, recurses := true, named := ["unicode/utf8.first", "unicode/utf8.acceptRanges"], apart := false, laid := [("unicode/utf8.acceptRanges", laid_unicode_utf8_acceptRanges), ("unicode/utf8.first", laid_unicode_utf8_first)] }
def FnSuggestSaid : Prop := fnSuggestRow.holds Tryd.pinned (OpenSpec.ofChange fnSuggestSpec)

/-- ITS FALSE NEIGHBOUR: 'it returns false'. Refute it at one input. -/
def fnSuggestWrong : ChangeSpec := { name := "fnSuggest", fn := fun _ => fun
  | [d] => { results := [.lit (.bool false)], args := [d] }
  | _ => none }
def FnSuggestWrongFalsely : Prop := fnSuggestRow.holds Tryd.pinned (OpenSpec.ofChange fnSuggestWrong)

/- THE SECOND FORM. 'bulk': how many values and letters a reading holds, each counted each time it is reached (what is shared counts as often as it is met; a slice's spare places count too). A statement '..UptoSaid' is the law's where the arguments, and the package variables that the reading takes, are together of bulk at most 1048576: NARROWER than '..Said'. Prove '..Said' where nothing that the law and all that it calls make is longer than what came in: it says more and counts as full. Else prove '..UptoSaid'. A law counts once. -/
mutual
def uptoBulk {H : Type} : DataW H → Nat
  | .lit (.string bytes) => bytes.length + 1
  | .lit _ => 1
  | .nil => 1
  | .ptr d => uptoBulk d + 1
  | .slice elems spare => uptoBulkAll elems + uptoBulkAll spare + 1
  | .agg parts => uptoBulkAll parts + 1
  | .iface _ d => uptoBulk d + 1
  | .map entries => uptoBulkEntries entries + 1
  | .held _ => 1
def uptoBulkAll {H : Type} : List (DataW H) → Nat
  | [] => 0
  | d :: r => uptoBulk d + uptoBulkAll r
def uptoBulkEntries {H : Type} : List (Lit × DataW H) → Nat
  | [] => 0
  | x :: r => uptoBulkEntry x + uptoBulkEntries r
def uptoBulkEntry {H : Type} : Lit × DataW H → Nat
  | (.string bytes, d) => bytes.length + uptoBulk d + 1
  | (_, d) => uptoBulk d + 1
 end
def uptoSmall : (H : Type) → List (DataW H) → Bool := fun _ ds => decide (uptoBulkAll ds ≤ 1048576)
def OpenSpec.upto (s : _root_.Go.ChangeSpec) : _root_.Go.OpenSpec := { _root_.Go.OpenSpec.ofChange s with cond := some uptoSmall }

/-- 'laws.FnExactFragments', WHERE WHAT IT READS IS OF BULK AT MOST 1048576: true; the input reads as it did. -/
def fnExactFragmentsUptoRow : OpenClaim := { program := "ytndjodgcemgpfaadoor", sum := "9b070d6f1793bfdcaacce6b6bd398e7a8101dc5eb75f91bef505527a6891b767", func := "loop.example/g00018/laws.FnExactFragments", spec := "fnExactFragments", inPlace := ["internal/abi.NoEscape"], unfollowed := true, recurses := true, named := ["unicode/utf8.first", "unicode/utf8.acceptRanges"], apart := false, laid := [("unicode/utf8.acceptRanges", laid_unicode_utf8_acceptRanges), ("unicode/utf8.first", laid_unicode_utf8_first)], narrowed := true }
def FnExactFragmentsUptoSaid : Prop := fnExactFragmentsUptoRow.holds Tryd.pinned (OpenSpec.upto fnExactFragmentsSpec)

/-- 'laws.FnExactBreak', WHERE WHAT IT READS IS OF BULK AT MOST 1048576: true; the input reads as it did. -/
def fnExactBreakUptoRow : OpenClaim := { program := "ytndjodgcemgpfaadoor", sum := "9b070d6f1793bfdcaacce6b6bd398e7a8101dc5eb75f91bef505527a6891b767", func := "loop.example/g00018/laws.FnExactBreak", spec := "fnExactBreak", unfollowed := true, recurses := true, named := ["unicode/utf8.first", "unicode/utf8.acceptRanges"], apart := false, laid := [("unicode/utf8.acceptRanges", laid_unicode_utf8_acceptRanges), ("unicode/utf8.first", laid_unicode_utf8_first)], narrowed := true }
def FnExactBreakUptoSaid : Prop := fnExactBreakUptoRow.holds Tryd.pinned (OpenSpec.upto fnExactBreakSpec)

/-- 'laws.FnText', WHERE WHAT IT READS IS OF BULK AT MOST 1048576: true; the input reads as it did. -/
def fnTextUptoRow : OpenClaim := { program := "ytndjodgcemgpfaadoor", sum := "9b070d6f1793bfdcaacce6b6bd398e7a8101dc5eb75f91bef505527a6891b767", func := "loop.example/g00018/laws.FnText", spec := "fnText", unfollowed := true, recurses := true, named := ["unicode/utf8.first", "unicode/utf8.acceptRanges"], apart := false, laid := [("unicode/utf8.acceptRanges", laid_unicode_utf8_acceptRanges), ("unicode/utf8.first", laid_unicode_utf8_first)], narrowed := true }
def FnTextUptoSaid : Prop := fnTextUptoRow.holds Tryd.pinned (OpenSpec.upto fnTextSpec)

/-- 'laws.FnExactSchemaOK', WHERE WHAT IT READS IS OF BULK AT MOST 1048576: true; the input reads as it did. -/
def fnExactSchemaOKUptoRow : OpenClaim := { program := "ytndjodgcemgpfaadoor", sum := "9b070d6f1793bfdcaacce6b6bd398e7a8101dc5eb75f91bef505527a6891b767", func := "loop.example/g00018/laws.FnExactSchemaOK", spec := "fnExactSchemaOK", inPlace := ["internal/bytealg.IndexByteString", "internal/bytealg.IndexString"], named := ["unicode/utf8.first", "unicode/utf8.acceptRanges", "internal/bytealg.MaxLen"], apart := false, laid := [("unicode/utf8.acceptRanges", laid_unicode_utf8_acceptRanges), ("unicode/utf8.first", laid_unicode_utf8_first)], narrowed := true }
def FnExactSchemaOKUptoSaid : Prop := fnExactSchemaOKUptoRow.holds Tryd.pinned (OpenSpec.upto fnExactSchemaOKSpec)

/-- 'laws.FnExactSuggest', WHERE WHAT IT READS IS OF BULK AT MOST 1048576: true; the input reads as it did. -/
def fnExactSuggestUptoRow : OpenClaim := { program := "ytndjodgcemgpfaadoor", sum := "9b070d6f1793bfdcaacce6b6bd398e7a8101dc5eb75f91bef505527a6891b767", func := "loop.example/g00018/laws.FnExactSuggest", spec := "fnExactSuggest", inPlace := ["internal/bytealg.abigen_runtime_cmpstring"], unfollowed := true, recurses := true, named := ["unicode/utf8.first", "unicode/utf8.acceptRanges"], apart := false, laid := [("unicode/utf8.acceptRanges", laid_unicode_utf8_acceptRanges), ("unicode/utf8.first", laid_unicode_utf8_first)], narrowed := true }
def FnExactSuggestUptoSaid : Prop := fnExactSuggestUptoRow.holds Tryd.pinned (OpenSpec.upto fnExactSuggestSpec)

/-- 'laws.FnSuggest', WHERE WHAT IT READS IS OF BULK AT MOST 1048576: true; the input reads as it did. -/
def fnSuggestUptoRow : OpenClaim := { program := "ytndjodgcemgpfaadoor", sum := "9b070d6f1793bfdcaacce6b6bd398e7a8101dc5eb75f91bef505527a6891b767", func := "loop.example/g00018/laws.FnSuggest", spec := "fnSuggest", inPlace := ["internal/bytealg.abigen_runtime_cmpstring"], unfollowed := true, recurses := true, named := ["unicode/utf8.first", "unicode/utf8.acceptRanges"], apart := false, laid := [("unicode/utf8.acceptRanges", laid_unicode_utf8_acceptRanges), ("unicode/utf8.first", laid_unicode_utf8_first)], narrowed := true }
def FnSuggestUptoSaid : Prop := fnSuggestUptoRow.holds Tryd.pinned (OpenSpec.upto fnSuggestSpec)

end Rows
end Go.Proofs.YtndjodgcemgpfaaDoor
