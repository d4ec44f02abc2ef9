/-
  No cell of these rows narrows 'for every input' (looked for: loops, veiled, ifaces, maps, wideKeys, modest, calm, conditions, laid).
  DERIVED. THE GIVEN ROWS OF THIS SEAT. 17 by the template 'for every input the law returns true; each argument reads behind the call as it read before'; 0 by the template 'total and deterministic' (their statements: YtnnadeeoejchpaaTotals.lean).
  GIVEN WITH THE SEED: the statements are not yours to turn. If you find one false, say at which input.
  Laid BY PROGRAM, IN A SANDBOX (cutbox-rows.mjs): the forced cells as the released guide's own fill.sh prints them over the translation e9f4233b85d4186b… (all of the seat's roots in one cut). By AI agents, Wed Nov 11 2026. No macro, syntax, notation, axiom, sorry.
-/
import Derived.Test.YtnnadeeoejchpaaChecked
import GoSem.Claim
import GoSem.ClaimJoined
import GoSem.ClaimMapViews
import Derived.JoinedTies
import Derived.KernelRfl
namespace Go.Proofs.Ytnnadeeoejchpaa
/- THE CELL 'sum', in the pinned program and in every row, IS THE sha256 OF THE DUMP (.gsa) THAT YtnnadeeoejchpaaProg.lean LOADS. Nothing in Lean hashes anything: it is a label: what it is worth is what the hold of that sum in a sandbox is worth. -/
noncomputable def Try.pinned : Pinned := { name := "ytnnadeeoejchpaa", sum := "e9f4233b85d4186b97f5e9e77b9713183b8872ca626531ef454e90e8e9033c16", checked := Try.checked }
namespace Rows
def none {H : Type} : Left H := { results := [], args := [] }

/-- 'lemmatalaw13.LlClash': WHATEVER THE INPUT: true; the input reads as it did. -/
def llClashSpec : ChangeSpec := { name := "llClash", fn := fun _ => fun
  | [d1, d2] => { results := [.lit (.bool true)], args := [d1, d2] }
  | _ => none }
def llClashRow : OpenClaim := { program := "ytnnadeeoejchpaa", sum := "e9f4233b85d4186b97f5e9e77b9713183b8872ca626531ef454e90e8e9033c16", func := "lemmata/lemmatalaw13.LlClash", spec := "llClash", unfollowed := true, recurses := true, plainKeys := false, apart := false }
def LlClashSaid : Prop := llClashRow.holds Try.pinned (OpenSpec.ofChange llClashSpec)

/-- ITS FALSE NEIGHBOUR: 'it returns false'. Refute it at one input. -/
def llClashWrong : ChangeSpec := { name := "llClash", fn := fun _ => fun
  | [d1, d2] => { results := [.lit (.bool false)], args := [d1, d2] }
  | _ => none }
def LlClashWrongFalsely : Prop := llClashRow.holds Try.pinned (OpenSpec.ofChange llClashWrong)

/-- 'lemmatalaw13.LlNone': WHATEVER THE INPUT: true; the input reads as it did. -/
def llNoneSpec : ChangeSpec := { name := "llNone", fn := fun _ => fun
  | [d] => { results := [.lit (.bool true)], args := [d] }
  | _ => none }
def llNoneRow : OpenClaim := { program := "ytnnadeeoejchpaa", sum := "e9f4233b85d4186b97f5e9e77b9713183b8872ca626531ef454e90e8e9033c16", func := "lemmata/lemmatalaw13.LlNone", spec := "llNone", unfollowed := true, recurses := true, plainKeys := false, apart := false }
def LlNoneSaid : Prop := llNoneRow.holds Try.pinned (OpenSpec.ofChange llNoneSpec)

/-- ITS FALSE NEIGHBOUR: 'it returns false'. Refute it at one input. -/
def llNoneWrong : ChangeSpec := { name := "llNone", fn := fun _ => fun
  | [d] => { results := [.lit (.bool false)], args := [d] }
  | _ => none }
def LlNoneWrongFalsely : Prop := llNoneRow.holds Try.pinned (OpenSpec.ofChange llNoneWrong)

/-- 'lemmatalaw25.DiagEach': WHATEVER THE INPUT: true; the input reads as it did. -/
def diagEachSpec : ChangeSpec := { name := "diagEach", fn := fun _ => fun
  | [d] => { results := [.lit (.bool true)], args := [d] }
  | _ => none }
def diagEachRow : OpenClaim := { program := "ytnnadeeoejchpaa", sum := "e9f4233b85d4186b97f5e9e77b9713183b8872ca626531ef454e90e8e9033c16", func := "lemmata/lemmatalaw25.DiagEach", spec := "diagEach", unfollowed := true, recurses := true, plainKeys := false, apart := false }
def DiagEachSaid : Prop := diagEachRow.holds Try.pinned (OpenSpec.ofChange diagEachSpec)

/-- ITS FALSE NEIGHBOUR: 'it returns false'. Refute it at one input. -/
def diagEachWrong : ChangeSpec := { name := "diagEach", fn := fun _ => fun
  | [d] => { results := [.lit (.bool false)], args := [d] }
  | _ => none }
def DiagEachWrongFalsely : Prop := diagEachRow.holds Try.pinned (OpenSpec.ofChange diagEachWrong)

/-- 'lemmatalaw25.DiagForms': WHATEVER THE INPUT: true; the input reads as it did. -/
def diagFormsSpec : ChangeSpec := { name := "diagForms", fn := fun _ => fun
  | [] => { results := [.lit (.bool true)], args := [] }
  | _ => none }
def diagFormsRow : OpenClaim := { program := "ytnnadeeoejchpaa", sum := "e9f4233b85d4186b97f5e9e77b9713183b8872ca626531ef454e90e8e9033c16", func := "lemmata/lemmatalaw25.DiagForms", spec := "diagForms", unfollowed := true, recurses := true, plainKeys := false, apart := false }
def DiagFormsSaid : Prop := diagFormsRow.holds Try.pinned (OpenSpec.ofChange diagFormsSpec)

/-- ITS FALSE NEIGHBOUR: 'it returns false'. Refute it at one input. -/
def diagFormsWrong : ChangeSpec := { name := "diagForms", fn := fun _ => fun
  | [] => { results := [.lit (.bool false)], args := [] }
  | _ => none }
def DiagFormsWrongFalsely : Prop := diagFormsRow.holds Try.pinned (OpenSpec.ofChange diagFormsWrong)

/-- 'lemmatalaw15.ParseAll': WHATEVER THE INPUT: true; the input reads as it did. -/
def parseAllSpec : ChangeSpec := { name := "parseAll", fn := fun _ => fun
  | [d1, d2, d3, d4, d5] => { results := [.lit (.bool true)], args := [d1, d2, d3, d4, d5] }
  | _ => none }
def parseAllRow : OpenClaim := { program := "ytnnadeeoejchpaa", sum := "e9f4233b85d4186b97f5e9e77b9713183b8872ca626531ef454e90e8e9033c16", func := "lemmata/lemmatalaw15.ParseAll", spec := "parseAll", unfollowed := true, recurses := true, plainKeys := false, apart := false }
def ParseAllSaid : Prop := parseAllRow.holds Try.pinned (OpenSpec.ofChange parseAllSpec)

/-- ITS FALSE NEIGHBOUR: 'it returns false'. Refute it at one input. -/
def parseAllWrong : ChangeSpec := { name := "parseAll", fn := fun _ => fun
  | [d1, d2, d3, d4, d5] => { results := [.lit (.bool false)], args := [d1, d2, d3, d4, d5] }
  | _ => none }
def ParseAllWrongFalsely : Prop := parseAllRow.holds Try.pinned (OpenSpec.ofChange parseAllWrong)

/-- 'lemmatalaw15.ParseTrue': WHATEVER THE INPUT: true; the input reads as it did. -/
def parseTrueSpec : ChangeSpec := { name := "parseTrue", fn := fun _ => fun
  | [d1, d2] => { results := [.lit (.bool true)], args := [d1, d2] }
  | _ => none }
def parseTrueRow : OpenClaim := { program := "ytnnadeeoejchpaa", sum := "e9f4233b85d4186b97f5e9e77b9713183b8872ca626531ef454e90e8e9033c16", func := "lemmata/lemmatalaw15.ParseTrue", spec := "parseTrue", unfollowed := true, recurses := true, plainKeys := false, apart := false }
def ParseTrueSaid : Prop := parseTrueRow.holds Try.pinned (OpenSpec.ofChange parseTrueSpec)

/-- ITS FALSE NEIGHBOUR: 'it returns false'. Refute it at one input. -/
def parseTrueWrong : ChangeSpec := { name := "parseTrue", fn := fun _ => fun
  | [d1, d2] => { results := [.lit (.bool false)], args := [d1, d2] }
  | _ => none }
def ParseTrueWrongFalsely : Prop := parseTrueRow.holds Try.pinned (OpenSpec.ofChange parseTrueWrong)

/-- 'lemmatalaw15.ParseTakes': WHATEVER THE INPUT: true; the input reads as it did. -/
def parseTakesSpec : ChangeSpec := { name := "parseTakes", fn := fun _ => fun
  | [d1, d2] => { results := [.lit (.bool true)], args := [d1, d2] }
  | _ => none }
def parseTakesRow : OpenClaim := { program := "ytnnadeeoejchpaa", sum := "e9f4233b85d4186b97f5e9e77b9713183b8872ca626531ef454e90e8e9033c16", func := "lemmata/lemmatalaw15.ParseTakes", spec := "parseTakes", unfollowed := true, recurses := true, plainKeys := false, apart := false }
def ParseTakesSaid : Prop := parseTakesRow.holds Try.pinned (OpenSpec.ofChange parseTakesSpec)

/-- ITS FALSE NEIGHBOUR: 'it returns false'. Refute it at one input. -/
def parseTakesWrong : ChangeSpec := { name := "parseTakes", fn := fun _ => fun
  | [d1, d2] => { results := [.lit (.bool false)], args := [d1, d2] }
  | _ => none }
def ParseTakesWrongFalsely : Prop := parseTakesRow.holds Try.pinned (OpenSpec.ofChange parseTakesWrong)

/-- 'lemmatalaw15.ParseFirst': WHATEVER THE INPUT: true; the input reads as it did. -/
def parseFirstSpec : ChangeSpec := { name := "parseFirst", fn := fun _ => fun
  | [d1, d2] => { results := [.lit (.bool true)], args := [d1, d2] }
  | _ => none }
def parseFirstRow : OpenClaim := { program := "ytnnadeeoejchpaa", sum := "e9f4233b85d4186b97f5e9e77b9713183b8872ca626531ef454e90e8e9033c16", func := "lemmata/lemmatalaw15.ParseFirst", spec := "parseFirst", unfollowed := true, recurses := true, plainKeys := false, apart := false }
def ParseFirstSaid : Prop := parseFirstRow.holds Try.pinned (OpenSpec.ofChange parseFirstSpec)

/-- ITS FALSE NEIGHBOUR: 'it returns false'. Refute it at one input. -/
def parseFirstWrong : ChangeSpec := { name := "parseFirst", fn := fun _ => fun
  | [d1, d2] => { results := [.lit (.bool false)], args := [d1, d2] }
  | _ => none }
def ParseFirstWrongFalsely : Prop := parseFirstRow.holds Try.pinned (OpenSpec.ofChange parseFirstWrong)

/-- 'lemmatalaw15.ParseForms': WHATEVER THE INPUT: true; the input reads as it did. -/
def parseFormsSpec : ChangeSpec := { name := "parseForms", fn := fun _ => fun
  | [] => { results := [.lit (.bool true)], args := [] }
  | _ => none }
def parseFormsRow : OpenClaim := { program := "ytnnadeeoejchpaa", sum := "e9f4233b85d4186b97f5e9e77b9713183b8872ca626531ef454e90e8e9033c16", func := "lemmata/lemmatalaw15.ParseForms", spec := "parseForms", unfollowed := true, recurses := true, plainKeys := false, apart := false }
def ParseFormsSaid : Prop := parseFormsRow.holds Try.pinned (OpenSpec.ofChange parseFormsSpec)

/-- ITS FALSE NEIGHBOUR: 'it returns false'. Refute it at one input. -/
def parseFormsWrong : ChangeSpec := { name := "parseForms", fn := fun _ => fun
  | [] => { results := [.lit (.bool false)], args := [] }
  | _ => none }
def ParseFormsWrongFalsely : Prop := parseFormsRow.holds Try.pinned (OpenSpec.ofChange parseFormsWrong)

/-- 'lemmatalaw15.ParseCut': WHATEVER THE INPUT: true; the input reads as it did. -/
def parseCutSpec : ChangeSpec := { name := "parseCut", fn := fun _ => fun
  | [d1, d2] => { results := [.lit (.bool true)], args := [d1, d2] }
  | _ => none }
def parseCutRow : OpenClaim := { program := "ytnnadeeoejchpaa", sum := "e9f4233b85d4186b97f5e9e77b9713183b8872ca626531ef454e90e8e9033c16", func := "lemmata/lemmatalaw15.ParseCut", spec := "parseCut", unfollowed := true, recurses := true, plainKeys := false, apart := false }
def ParseCutSaid : Prop := parseCutRow.holds Try.pinned (OpenSpec.ofChange parseCutSpec)

/-- ITS FALSE NEIGHBOUR: 'it returns false'. Refute it at one input. -/
def parseCutWrong : ChangeSpec := { name := "parseCut", fn := fun _ => fun
  | [d1, d2] => { results := [.lit (.bool false)], args := [d1, d2] }
  | _ => none }
def ParseCutWrongFalsely : Prop := parseCutRow.holds Try.pinned (OpenSpec.ofChange parseCutWrong)

/-- 'lemmatalaw15.ParseNumbers': WHATEVER THE INPUT: true; the input reads as it did. -/
def parseNumbersSpec : ChangeSpec := { name := "parseNumbers", fn := fun _ => fun
  | [d1, d2, d3, d4] => { results := [.lit (.bool true)], args := [d1, d2, d3, d4] }
  | _ => none }
def parseNumbersRow : OpenClaim := { program := "ytnnadeeoejchpaa", sum := "e9f4233b85d4186b97f5e9e77b9713183b8872ca626531ef454e90e8e9033c16", func := "lemmata/lemmatalaw15.ParseNumbers", spec := "parseNumbers", unfollowed := true, recurses := true, plainKeys := false, apart := false }
def ParseNumbersSaid : Prop := parseNumbersRow.holds Try.pinned (OpenSpec.ofChange parseNumbersSpec)

/-- ITS FALSE NEIGHBOUR: 'it returns false'. Refute it at one input. -/
def parseNumbersWrong : ChangeSpec := { name := "parseNumbers", fn := fun _ => fun
  | [d1, d2, d3, d4] => { results := [.lit (.bool false)], args := [d1, d2, d3, d4] }
  | _ => none }
def ParseNumbersWrongFalsely : Prop := parseNumbersRow.holds Try.pinned (OpenSpec.ofChange parseNumbersWrong)

/-- 'lemmatalaw6.LexCovers': WHATEVER THE INPUT: true; the input reads as it did. -/
def lexCoversSpec : ChangeSpec := { name := "lexCovers", fn := fun _ => fun
  | [d1, d2] => { results := [.lit (.bool true)], args := [d1, d2] }
  | _ => none }
def lexCoversRow : OpenClaim := { program := "ytnnadeeoejchpaa", sum := "e9f4233b85d4186b97f5e9e77b9713183b8872ca626531ef454e90e8e9033c16", func := "lemmata/lemmatalaw6.LexCovers", spec := "lexCovers", inPlace := ["internal/bytealg.IndexByteString"], unfollowed := true, recurses := true, plainKeys := false, apart := false }
def LexCoversSaid : Prop := lexCoversRow.holds Try.pinned (OpenSpec.ofChange lexCoversSpec)

/-- ITS FALSE NEIGHBOUR: 'it returns false'. Refute it at one input. -/
def lexCoversWrong : ChangeSpec := { name := "lexCovers", fn := fun _ => fun
  | [d1, d2] => { results := [.lit (.bool false)], args := [d1, d2] }
  | _ => none }
def LexCoversWrongFalsely : Prop := lexCoversRow.holds Try.pinned (OpenSpec.ofChange lexCoversWrong)

/-- 'lemmatalaw6.LexRows': WHATEVER THE INPUT: true; the input reads as it did. -/
def lexRowsSpec : ChangeSpec := { name := "lexRows", fn := fun _ => fun
  | [d] => { results := [.lit (.bool true)], args := [d] }
  | _ => none }
def lexRowsRow : OpenClaim := { program := "ytnnadeeoejchpaa", sum := "e9f4233b85d4186b97f5e9e77b9713183b8872ca626531ef454e90e8e9033c16", func := "lemmata/lemmatalaw6.LexRows", spec := "lexRows", inPlace := ["internal/bytealg.IndexByteString"], unfollowed := true, recurses := true, plainKeys := false, apart := false }
def LexRowsSaid : Prop := lexRowsRow.holds Try.pinned (OpenSpec.ofChange lexRowsSpec)

/-- ITS FALSE NEIGHBOUR: 'it returns false'. Refute it at one input. -/
def lexRowsWrong : ChangeSpec := { name := "lexRows", fn := fun _ => fun
  | [d] => { results := [.lit (.bool false)], args := [d] }
  | _ => none }
def LexRowsWrongFalsely : Prop := lexRowsRow.holds Try.pinned (OpenSpec.ofChange lexRowsWrong)

/-- 'lemmatalaw6.LexForms': WHATEVER THE INPUT: true; the input reads as it did. -/
def lexFormsSpec : ChangeSpec := { name := "lexForms", fn := fun _ => fun
  | [] => { results := [.lit (.bool true)], args := [] }
  | _ => none }
def lexFormsRow : OpenClaim := { program := "ytnnadeeoejchpaa", sum := "e9f4233b85d4186b97f5e9e77b9713183b8872ca626531ef454e90e8e9033c16", func := "lemmata/lemmatalaw6.LexForms", spec := "lexForms", inPlace := ["internal/bytealg.IndexByteString"], unfollowed := true, recurses := true, plainKeys := false, apart := false }
def LexFormsSaid : Prop := lexFormsRow.holds Try.pinned (OpenSpec.ofChange lexFormsSpec)

/-- ITS FALSE NEIGHBOUR: 'it returns false'. Refute it at one input. -/
def lexFormsWrong : ChangeSpec := { name := "lexForms", fn := fun _ => fun
  | [] => { results := [.lit (.bool false)], args := [] }
  | _ => none }
def LexFormsWrongFalsely : Prop := lexFormsRow.holds Try.pinned (OpenSpec.ofChange lexFormsWrong)

/-- 'lemmatalaw7.RelexAll': WHATEVER THE INPUT: true; the input reads as it did. -/
def relexAllSpec : ChangeSpec := { name := "relexAll", fn := fun _ => fun
  | [d1, d2, d3] => { results := [.lit (.bool true)], args := [d1, d2, d3] }
  | _ => none }
def relexAllRow : OpenClaim := { program := "ytnnadeeoejchpaa", sum := "e9f4233b85d4186b97f5e9e77b9713183b8872ca626531ef454e90e8e9033c16", func := "lemmata/lemmatalaw7.RelexAll", spec := "relexAll", inPlace := ["internal/bytealg.IndexByteString"], unfollowed := true, recurses := true, plainKeys := false, apart := false }
def RelexAllSaid : Prop := relexAllRow.holds Try.pinned (OpenSpec.ofChange relexAllSpec)

/-- ITS FALSE NEIGHBOUR: 'it returns false'. Refute it at one input. -/
def relexAllWrong : ChangeSpec := { name := "relexAll", fn := fun _ => fun
  | [d1, d2, d3] => { results := [.lit (.bool false)], args := [d1, d2, d3] }
  | _ => none }
def RelexAllWrongFalsely : Prop := relexAllRow.holds Try.pinned (OpenSpec.ofChange relexAllWrong)

/-- 'lemmatalaw7.RelexNone': WHATEVER THE INPUT: true; the input reads as it did. -/
def relexNoneSpec : ChangeSpec := { name := "relexNone", fn := fun _ => fun
  | [d1, d2, d3, d4] => { results := [.lit (.bool true)], args := [d1, d2, d3, d4] }
  | _ => none }
def relexNoneRow : OpenClaim := { program := "ytnnadeeoejchpaa", sum := "e9f4233b85d4186b97f5e9e77b9713183b8872ca626531ef454e90e8e9033c16", func := "lemmata/lemmatalaw7.RelexNone", spec := "relexNone", inPlace := ["internal/bytealg.IndexByteString"], unfollowed := true, recurses := true, plainKeys := false, apart := false }
def RelexNoneSaid : Prop := relexNoneRow.holds Try.pinned (OpenSpec.ofChange relexNoneSpec)

/-- ITS FALSE NEIGHBOUR: 'it returns false'. Refute it at one input. -/
def relexNoneWrong : ChangeSpec := { name := "relexNone", fn := fun _ => fun
  | [d1, d2, d3, d4] => { results := [.lit (.bool false)], args := [d1, d2, d3, d4] }
  | _ => none }
def RelexNoneWrongFalsely : Prop := relexNoneRow.holds Try.pinned (OpenSpec.ofChange relexNoneWrong)

/-- 'lemmatalaw7.RelexFew': WHATEVER THE INPUT: true; the input reads as it did. -/
def relexFewSpec : ChangeSpec := { name := "relexFew", fn := fun _ => fun
  | [d1, d2, d3] => { results := [.lit (.bool true)], args := [d1, d2, d3] }
  | _ => none }
def relexFewRow : OpenClaim := { program := "ytnnadeeoejchpaa", sum := "e9f4233b85d4186b97f5e9e77b9713183b8872ca626531ef454e90e8e9033c16", func := "lemmata/lemmatalaw7.RelexFew", spec := "relexFew", inPlace := ["internal/bytealg.IndexByteString"], unfollowed := true, recurses := true, plainKeys := false, apart := false }
def RelexFewSaid : Prop := relexFewRow.holds Try.pinned (OpenSpec.ofChange relexFewSpec)

/-- ITS FALSE NEIGHBOUR: 'it returns false'. Refute it at one input. -/
def relexFewWrong : ChangeSpec := { name := "relexFew", fn := fun _ => fun
  | [d1, d2, d3] => { results := [.lit (.bool false)], args := [d1, d2, d3] }
  | _ => none }
def RelexFewWrongFalsely : Prop := relexFewRow.holds Try.pinned (OpenSpec.ofChange relexFewWrong)

/- THE SECOND FORM. 'bulk': how many values and letters a reading holds, each counted each time it is reached (what is shared counts as often as it is met; a slice's spare places count too). A statement '..UptoSaid' is the law's where the arguments, and the package variables that the reading takes, are together of bulk at most 1048576: NARROWER than '..Said'. Prove '..Said' where nothing that the law and all that it calls make is longer than what came in: it says more and counts as full. Else prove '..UptoSaid'. A law counts once. -/
mutual
def uptoBulk {H : Type} : DataW H → Nat
  | .lit (.string bytes) => bytes.length + 1
  | .lit _ => 1
  | .nil => 1
  | .ptr d => uptoBulk d + 1
  | .slice elems spare => uptoBulkAll elems + uptoBulkAll spare + 1
  | .agg parts => uptoBulkAll parts + 1
  | .iface _ d => uptoBulk d + 1
  | .map entries => uptoBulkEntries entries + 1
  | .held _ => 1
def uptoBulkAll {H : Type} : List (DataW H) → Nat
  | [] => 0
  | d :: r => uptoBulk d + uptoBulkAll r
def uptoBulkEntries {H : Type} : List (Lit × DataW H) → Nat
  | [] => 0
  | x :: r => uptoBulkEntry x + uptoBulkEntries r
def uptoBulkEntry {H : Type} : Lit × DataW H → Nat
  | (.string bytes, d) => bytes.length + uptoBulk d + 1
  | (_, d) => uptoBulk d + 1
 end
def uptoSmall : (H : Type) → List (DataW H) → Bool := fun _ ds => decide (uptoBulkAll ds ≤ 1048576)
def OpenSpec.upto (s : _root_.Go.ChangeSpec) : _root_.Go.OpenSpec := { _root_.Go.OpenSpec.ofChange s with cond := some uptoSmall }

/-- 'lemmatalaw13.LlClash', WHERE WHAT IT READS IS OF BULK AT MOST 1048576: true; the input reads as it did. -/
def llClashUptoRow : OpenClaim := { program := "ytnnadeeoejchpaa", sum := "e9f4233b85d4186b97f5e9e77b9713183b8872ca626531ef454e90e8e9033c16", func := "lemmata/lemmatalaw13.LlClash", spec := "llClash", unfollowed := true, recurses := true, plainKeys := false, apart := false, narrowed := true }
def LlClashUptoSaid : Prop := llClashUptoRow.holds Try.pinned (OpenSpec.upto llClashSpec)

/-- 'lemmatalaw13.LlNone', WHERE WHAT IT READS IS OF BULK AT MOST 1048576: true; the input reads as it did. -/
def llNoneUptoRow : OpenClaim := { program := "ytnnadeeoejchpaa", sum := "e9f4233b85d4186b97f5e9e77b9713183b8872ca626531ef454e90e8e9033c16", func := "lemmata/lemmatalaw13.LlNone", spec := "llNone", unfollowed := true, recurses := true, plainKeys := false, apart := false, narrowed := true }
def LlNoneUptoSaid : Prop := llNoneUptoRow.holds Try.pinned (OpenSpec.upto llNoneSpec)

/-- 'lemmatalaw25.DiagEach', WHERE WHAT IT READS IS OF BULK AT MOST 1048576: true; the input reads as it did. -/
def diagEachUptoRow : OpenClaim := { program := "ytnnadeeoejchpaa", sum := "e9f4233b85d4186b97f5e9e77b9713183b8872ca626531ef454e90e8e9033c16", func := "lemmata/lemmatalaw25.DiagEach", spec := "diagEach", unfollowed := true, recurses := true, plainKeys := false, apart := false, narrowed := true }
def DiagEachUptoSaid : Prop := diagEachUptoRow.holds Try.pinned (OpenSpec.upto diagEachSpec)

/-- 'lemmatalaw25.DiagForms', WHERE WHAT IT READS IS OF BULK AT MOST 1048576: true; the input reads as it did. -/
def diagFormsUptoRow : OpenClaim := { program := "ytnnadeeoejchpaa", sum := "e9f4233b85d4186b97f5e9e77b9713183b8872ca626531ef454e90e8e9033c16", func := "lemmata/lemmatalaw25.DiagForms", spec := "diagForms", unfollowed := true, recurses := true, plainKeys := false, apart := false, narrowed := true }
def DiagFormsUptoSaid : Prop := diagFormsUptoRow.holds Try.pinned (OpenSpec.upto diagFormsSpec)

/-- 'lemmatalaw15.ParseAll', WHERE WHAT IT READS IS OF BULK AT MOST 1048576: true; the input reads as it did. -/
def parseAllUptoRow : OpenClaim := { program := "ytnnadeeoejchpaa", sum := "e9f4233b85d4186b97f5e9e77b9713183b8872ca626531ef454e90e8e9033c16", func := "lemmata/lemmatalaw15.ParseAll", spec := "parseAll", unfollowed := true, recurses := true, plainKeys := false, apart := false, narrowed := true }
def ParseAllUptoSaid : Prop := parseAllUptoRow.holds Try.pinned (OpenSpec.upto parseAllSpec)

/-- 'lemmatalaw15.ParseTrue', WHERE WHAT IT READS IS OF BULK AT MOST 1048576: true; the input reads as it did. -/
def parseTrueUptoRow : OpenClaim := { program := "ytnnadeeoejchpaa", sum := "e9f4233b85d4186b97f5e9e77b9713183b8872ca626531ef454e90e8e9033c16", func := "lemmata/lemmatalaw15.ParseTrue", spec := "parseTrue", unfollowed := true, recurses := true, plainKeys := false, apart := false, narrowed := true }
def ParseTrueUptoSaid : Prop := parseTrueUptoRow.holds Try.pinned (OpenSpec.upto parseTrueSpec)

/-- 'lemmatalaw15.ParseTakes', WHERE WHAT IT READS IS OF BULK AT MOST 1048576: true; the input reads as it did. -/
def parseTakesUptoRow : OpenClaim := { program := "ytnnadeeoejchpaa", sum := "e9f4233b85d4186b97f5e9e77b9713183b8872ca626531ef454e90e8e9033c16", func := "lemmata/lemmatalaw15.ParseTakes", spec := "parseTakes", unfollowed := true, recurses := true, plainKeys := false, apart := false, narrowed := true }
def ParseTakesUptoSaid : Prop := parseTakesUptoRow.holds Try.pinned (OpenSpec.upto parseTakesSpec)

/-- 'lemmatalaw15.ParseFirst', WHERE WHAT IT READS IS OF BULK AT MOST 1048576: true; the input reads as it did. -/
def parseFirstUptoRow : OpenClaim := { program := "ytnnadeeoejchpaa", sum := "e9f4233b85d4186b97f5e9e77b9713183b8872ca626531ef454e90e8e9033c16", func := "lemmata/lemmatalaw15.ParseFirst", spec := "parseFirst", unfollowed := true, recurses := true, plainKeys := false, apart := false, narrowed := true }
def ParseFirstUptoSaid : Prop := parseFirstUptoRow.holds Try.pinned (OpenSpec.upto parseFirstSpec)

/-- 'lemmatalaw15.ParseForms', WHERE WHAT IT READS IS OF BULK AT MOST 1048576: true; the input reads as it did. -/
def parseFormsUptoRow : OpenClaim := { program := "ytnnadeeoejchpaa", sum := "e9f4233b85d4186b97f5e9e77b9713183b8872ca626531ef454e90e8e9033c16", func := "lemmata/lemmatalaw15.ParseForms", spec := "parseForms", unfollowed := true, recurses := true, plainKeys := false, apart := false, narrowed := true }
def ParseFormsUptoSaid : Prop := parseFormsUptoRow.holds Try.pinned (OpenSpec.upto parseFormsSpec)

/-- 'lemmatalaw15.ParseCut', WHERE WHAT IT READS IS OF BULK AT MOST 1048576: true; the input reads as it did. -/
def parseCutUptoRow : OpenClaim := { program := "ytnnadeeoejchpaa", sum := "e9f4233b85d4186b97f5e9e77b9713183b8872ca626531ef454e90e8e9033c16", func := "lemmata/lemmatalaw15.ParseCut", spec := "parseCut", unfollowed := true, recurses := true, plainKeys := false, apart := false, narrowed := true }
def ParseCutUptoSaid : Prop := parseCutUptoRow.holds Try.pinned (OpenSpec.upto parseCutSpec)

/-- 'lemmatalaw15.ParseNumbers', WHERE WHAT IT READS IS OF BULK AT MOST 1048576: true; the input reads as it did. -/
def parseNumbersUptoRow : OpenClaim := { program := "ytnnadeeoejchpaa", sum := "e9f4233b85d4186b97f5e9e77b9713183b8872ca626531ef454e90e8e9033c16", func := "lemmata/lemmatalaw15.ParseNumbers", spec := "parseNumbers", unfollowed := true, recurses := true, plainKeys := false, apart := false, narrowed := true }
def ParseNumbersUptoSaid : Prop := parseNumbersUptoRow.holds Try.pinned (OpenSpec.upto parseNumbersSpec)

/-- 'lemmatalaw6.LexCovers', WHERE WHAT IT READS IS OF BULK AT MOST 1048576: true; the input reads as it did. -/
def lexCoversUptoRow : OpenClaim := { program := "ytnnadeeoejchpaa", sum := "e9f4233b85d4186b97f5e9e77b9713183b8872ca626531ef454e90e8e9033c16", func := "lemmata/lemmatalaw6.LexCovers", spec := "lexCovers", inPlace := ["internal/bytealg.IndexByteString"], unfollowed := true, recurses := true, plainKeys := false, apart := false, narrowed := true }
def LexCoversUptoSaid : Prop := lexCoversUptoRow.holds Try.pinned (OpenSpec.upto lexCoversSpec)

/-- 'lemmatalaw6.LexRows', WHERE WHAT IT READS IS OF BULK AT MOST 1048576: true; the input reads as it did. -/
def lexRowsUptoRow : OpenClaim := { program := "ytnnadeeoejchpaa", sum := "e9f4233b85d4186b97f5e9e77b9713183b8872ca626531ef454e90e8e9033c16", func := "lemmata/lemmatalaw6.LexRows", spec := "lexRows", inPlace := ["internal/bytealg.IndexByteString"], unfollowed := true, recurses := true, plainKeys := false, apart := false, narrowed := true }
def LexRowsUptoSaid : Prop := lexRowsUptoRow.holds Try.pinned (OpenSpec.upto lexRowsSpec)

/-- 'lemmatalaw6.LexForms', WHERE WHAT IT READS IS OF BULK AT MOST 1048576: true; the input reads as it did. -/
def lexFormsUptoRow : OpenClaim := { program := "ytnnadeeoejchpaa", sum := "e9f4233b85d4186b97f5e9e77b9713183b8872ca626531ef454e90e8e9033c16", func := "lemmata/lemmatalaw6.LexForms", spec := "lexForms", inPlace := ["internal/bytealg.IndexByteString"], unfollowed := true, recurses := true, plainKeys := false, apart := false, narrowed := true }
def LexFormsUptoSaid : Prop := lexFormsUptoRow.holds Try.pinned (OpenSpec.upto lexFormsSpec)

/-- 'lemmatalaw7.RelexAll', WHERE WHAT IT READS IS OF BULK AT MOST 1048576: true; the input reads as it did. -/
def relexAllUptoRow : OpenClaim := { program := "ytnnadeeoejchpaa", sum := "e9f4233b85d4186b97f5e9e77b9713183b8872ca626531ef454e90e8e9033c16", func := "lemmata/lemmatalaw7.RelexAll", spec := "relexAll", inPlace := ["internal/bytealg.IndexByteString"], unfollowed := true, recurses := true, plainKeys := false, apart := false, narrowed := true }
def RelexAllUptoSaid : Prop := relexAllUptoRow.holds Try.pinned (OpenSpec.upto relexAllSpec)

/-- 'lemmatalaw7.RelexNone', WHERE WHAT IT READS IS OF BULK AT MOST 1048576: true; the input reads as it did. -/
def relexNoneUptoRow : OpenClaim := { program := "ytnnadeeoejchpaa", sum := "e9f4233b85d4186b97f5e9e77b9713183b8872ca626531ef454e90e8e9033c16", func := "lemmata/lemmatalaw7.RelexNone", spec := "relexNone", inPlace := ["internal/bytealg.IndexByteString"], unfollowed := true, recurses := true, plainKeys := false, apart := false, narrowed := true }
def RelexNoneUptoSaid : Prop := relexNoneUptoRow.holds Try.pinned (OpenSpec.upto relexNoneSpec)

/-- 'lemmatalaw7.RelexFew', WHERE WHAT IT READS IS OF BULK AT MOST 1048576: true; the input reads as it did. -/
def relexFewUptoRow : OpenClaim := { program := "ytnnadeeoejchpaa", sum := "e9f4233b85d4186b97f5e9e77b9713183b8872ca626531ef454e90e8e9033c16", func := "lemmata/lemmatalaw7.RelexFew", spec := "relexFew", inPlace := ["internal/bytealg.IndexByteString"], unfollowed := true, recurses := true, plainKeys := false, apart := false, narrowed := true }
def RelexFewUptoSaid : Prop := relexFewUptoRow.holds Try.pinned (OpenSpec.upto relexFewSpec)

end Rows
end Go.Proofs.Ytnnadeeoejchpaa
