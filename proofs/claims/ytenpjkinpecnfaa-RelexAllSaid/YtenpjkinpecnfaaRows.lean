/-
  No cell of these rows narrows 'for every input' (looked for: loops, veiled, ifaces, maps, wideKeys, modest, calm, conditions, laid).
  DERIVED. THE GIVEN ROWS OF THIS SEAT. 18 by the template 'for every input the law returns true; each argument reads behind the call as it read before'; 0 by the template 'total and deterministic' (their statements: YtenpjkinpecnfaaTotals.lean).
  GIVEN WITH THE SEED: the statements are not yours to turn. If you find one false, say at which input.
  Laid BY PROGRAM, IN A SANDBOX (cutbox-rows.mjs): the forced cells as the released guide's own fill.sh prints them over the translation 4b619c1042749d62… (all of the seat's roots in one cut). By AI agents, Wed Nov 11 2026. No macro, syntax, notation, axiom, sorry.
-/
import Derived.Test.YtenpjkinpecnfaaChecked
import GoSem.Claim
import GoSem.ClaimJoined
import GoSem.ClaimMapViews
import Derived.JoinedTies
import Derived.KernelRfl
namespace Go.Proofs.Ytenpjkinpecnfaa
/- THE CELL 'sum', in the pinned program and in every row, IS THE sha256 OF THE DUMP (.gsa) THAT YtenpjkinpecnfaaProg.lean LOADS. Nothing in Lean hashes anything: it is a label: what it is worth is what the hold of that sum in a sandbox is worth. -/
noncomputable def Try.pinned : Pinned := { name := "ytenpjkinpecnfaa", sum := "4b619c1042749d62922d06e466a6a5a9494a228dd672c355ace2f97e936f2d4c", checked := Try.checked }
namespace Rows
def none {H : Type} : Left H := { results := [], args := [] }

/-- 'lemmatalaw3.RexAll': WHATEVER THE INPUT: true; the input reads as it did. -/
def rexAllSpec : ChangeSpec := { name := "rexAll", fn := fun _ => fun
  | [d1, d2, d3, d4] => { results := [.lit (.bool true)], args := [d1, d2, d3, d4] }
  | _ => none }
def rexAllRow : OpenClaim := { program := "ytenpjkinpecnfaa", sum := "4b619c1042749d62922d06e466a6a5a9494a228dd672c355ace2f97e936f2d4c", func := "lemmata/lemmatalaw3.RexAll", spec := "rexAll", inPlace := ["internal/bytealg.IndexByteString"], unfollowed := true, recurses := true, apart := false }
def RexAllSaid : Prop := rexAllRow.holds Try.pinned (OpenSpec.ofChange rexAllSpec)

/-- ITS FALSE NEIGHBOUR: 'it returns false'. Refute it at one input. -/
def rexAllWrong : ChangeSpec := { name := "rexAll", fn := fun _ => fun
  | [d1, d2, d3, d4] => { results := [.lit (.bool false)], args := [d1, d2, d3, d4] }
  | _ => none }
def RexAllWrongFalsely : Prop := rexAllRow.holds Try.pinned (OpenSpec.ofChange rexAllWrong)

/-- 'lemmatalaw3.RexCount': WHATEVER THE INPUT: true; the input reads as it did. -/
def rexCountSpec : ChangeSpec := { name := "rexCount", fn := fun _ => fun
  | [d1, d2] => { results := [.lit (.bool true)], args := [d1, d2] }
  | _ => none }
def rexCountRow : OpenClaim := { program := "ytenpjkinpecnfaa", sum := "4b619c1042749d62922d06e466a6a5a9494a228dd672c355ace2f97e936f2d4c", func := "lemmata/lemmatalaw3.RexCount", spec := "rexCount", inPlace := ["internal/bytealg.IndexByteString"], unfollowed := true, recurses := true, apart := false }
def RexCountSaid : Prop := rexCountRow.holds Try.pinned (OpenSpec.ofChange rexCountSpec)

/-- ITS FALSE NEIGHBOUR: 'it returns false'. Refute it at one input. -/
def rexCountWrong : ChangeSpec := { name := "rexCount", fn := fun _ => fun
  | [d1, d2] => { results := [.lit (.bool false)], args := [d1, d2] }
  | _ => none }
def RexCountWrongFalsely : Prop := rexCountRow.holds Try.pinned (OpenSpec.ofChange rexCountWrong)

/-- 'lemmatalaw3.RexForms': WHATEVER THE INPUT: true; the input reads as it did. -/
def rexFormsSpec : ChangeSpec := { name := "rexForms", fn := fun _ => fun
  | [] => { results := [.lit (.bool true)], args := [] }
  | _ => none }
def rexFormsRow : OpenClaim := { program := "ytenpjkinpecnfaa", sum := "4b619c1042749d62922d06e466a6a5a9494a228dd672c355ace2f97e936f2d4c", func := "lemmata/lemmatalaw3.RexForms", spec := "rexForms", inPlace := ["internal/bytealg.IndexByteString"], unfollowed := true, recurses := true, apart := false }
def RexFormsSaid : Prop := rexFormsRow.holds Try.pinned (OpenSpec.ofChange rexFormsSpec)

/-- ITS FALSE NEIGHBOUR: 'it returns false'. Refute it at one input. -/
def rexFormsWrong : ChangeSpec := { name := "rexForms", fn := fun _ => fun
  | [] => { results := [.lit (.bool false)], args := [] }
  | _ => none }
def RexFormsWrongFalsely : Prop := rexFormsRow.holds Try.pinned (OpenSpec.ofChange rexFormsWrong)

/-- 'lemmatalaw3.RexRound': WHATEVER THE INPUT: true; the input reads as it did. -/
def rexRoundSpec : ChangeSpec := { name := "rexRound", fn := fun _ => fun
  | [d1, d2] => { results := [.lit (.bool true)], args := [d1, d2] }
  | _ => none }
def rexRoundRow : OpenClaim := { program := "ytenpjkinpecnfaa", sum := "4b619c1042749d62922d06e466a6a5a9494a228dd672c355ace2f97e936f2d4c", func := "lemmata/lemmatalaw3.RexRound", spec := "rexRound", inPlace := ["internal/bytealg.IndexByteString"], unfollowed := true, recurses := true, apart := false }
def RexRoundSaid : Prop := rexRoundRow.holds Try.pinned (OpenSpec.ofChange rexRoundSpec)

/-- ITS FALSE NEIGHBOUR: 'it returns false'. Refute it at one input. -/
def rexRoundWrong : ChangeSpec := { name := "rexRound", fn := fun _ => fun
  | [d1, d2] => { results := [.lit (.bool false)], args := [d1, d2] }
  | _ => none }
def RexRoundWrongFalsely : Prop := rexRoundRow.holds Try.pinned (OpenSpec.ofChange rexRoundWrong)

/-- 'lemmatalaw4.NfaAll': WHATEVER THE INPUT: true; the input reads as it did. -/
def nfaAllSpec : ChangeSpec := { name := "nfaAll", fn := fun _ => fun
  | [d1, d2, d3] => { results := [.lit (.bool true)], args := [d1, d2, d3] }
  | _ => none }
def nfaAllRow : OpenClaim := { program := "ytenpjkinpecnfaa", sum := "4b619c1042749d62922d06e466a6a5a9494a228dd672c355ace2f97e936f2d4c", func := "lemmata/lemmatalaw4.NfaAll", spec := "nfaAll", recurses := true, apart := false }
def NfaAllSaid : Prop := nfaAllRow.holds Try.pinned (OpenSpec.ofChange nfaAllSpec)

/-- ITS FALSE NEIGHBOUR: 'it returns false'. Refute it at one input. -/
def nfaAllWrong : ChangeSpec := { name := "nfaAll", fn := fun _ => fun
  | [d1, d2, d3] => { results := [.lit (.bool false)], args := [d1, d2, d3] }
  | _ => none }
def NfaAllWrongFalsely : Prop := nfaAllRow.holds Try.pinned (OpenSpec.ofChange nfaAllWrong)

/-- 'lemmatalaw4.NfaEach': WHATEVER THE INPUT: true; the input reads as it did. -/
def nfaEachSpec : ChangeSpec := { name := "nfaEach", fn := fun _ => fun
  | [d1, d2] => { results := [.lit (.bool true)], args := [d1, d2] }
  | _ => none }
def nfaEachRow : OpenClaim := { program := "ytenpjkinpecnfaa", sum := "4b619c1042749d62922d06e466a6a5a9494a228dd672c355ace2f97e936f2d4c", func := "lemmata/lemmatalaw4.NfaEach", spec := "nfaEach", recurses := true, apart := false }
def NfaEachSaid : Prop := nfaEachRow.holds Try.pinned (OpenSpec.ofChange nfaEachSpec)

/-- ITS FALSE NEIGHBOUR: 'it returns false'. Refute it at one input. -/
def nfaEachWrong : ChangeSpec := { name := "nfaEach", fn := fun _ => fun
  | [d1, d2] => { results := [.lit (.bool false)], args := [d1, d2] }
  | _ => none }
def NfaEachWrongFalsely : Prop := nfaEachRow.holds Try.pinned (OpenSpec.ofChange nfaEachWrong)

/-- 'lemmatalaw4.NfaForms': WHATEVER THE INPUT: true; the input reads as it did. -/
def nfaFormsSpec : ChangeSpec := { name := "nfaForms", fn := fun _ => fun
  | [] => { results := [.lit (.bool true)], args := [] }
  | _ => none }
def nfaFormsRow : OpenClaim := { program := "ytenpjkinpecnfaa", sum := "4b619c1042749d62922d06e466a6a5a9494a228dd672c355ace2f97e936f2d4c", func := "lemmata/lemmatalaw4.NfaForms", spec := "nfaForms", recurses := true, apart := false }
def NfaFormsSaid : Prop := nfaFormsRow.holds Try.pinned (OpenSpec.ofChange nfaFormsSpec)

/-- ITS FALSE NEIGHBOUR: 'it returns false'. Refute it at one input. -/
def nfaFormsWrong : ChangeSpec := { name := "nfaForms", fn := fun _ => fun
  | [] => { results := [.lit (.bool false)], args := [] }
  | _ => none }
def NfaFormsWrongFalsely : Prop := nfaFormsRow.holds Try.pinned (OpenSpec.ofChange nfaFormsWrong)

/-- 'lemmatalaw4.NfaMore': WHATEVER THE INPUT: true; the input reads as it did. -/
def nfaMoreSpec : ChangeSpec := { name := "nfaMore", fn := fun _ => fun
  | [d1, d2] => { results := [.lit (.bool true)], args := [d1, d2] }
  | _ => none }
def nfaMoreRow : OpenClaim := { program := "ytenpjkinpecnfaa", sum := "4b619c1042749d62922d06e466a6a5a9494a228dd672c355ace2f97e936f2d4c", func := "lemmata/lemmatalaw4.NfaMore", spec := "nfaMore", recurses := true, apart := false }
def NfaMoreSaid : Prop := nfaMoreRow.holds Try.pinned (OpenSpec.ofChange nfaMoreSpec)

/-- ITS FALSE NEIGHBOUR: 'it returns false'. Refute it at one input. -/
def nfaMoreWrong : ChangeSpec := { name := "nfaMore", fn := fun _ => fun
  | [d1, d2] => { results := [.lit (.bool false)], args := [d1, d2] }
  | _ => none }
def NfaMoreWrongFalsely : Prop := nfaMoreRow.holds Try.pinned (OpenSpec.ofChange nfaMoreWrong)

/-- 'lemmatalaw5.DfaAll': WHATEVER THE INPUT: true; the input reads as it did. -/
def dfaAllSpec : ChangeSpec := { name := "dfaAll", fn := fun _ => fun
  | [d1, d2, d3] => { results := [.lit (.bool true)], args := [d1, d2, d3] }
  | _ => none }
def dfaAllRow : OpenClaim := { program := "ytenpjkinpecnfaa", sum := "4b619c1042749d62922d06e466a6a5a9494a228dd672c355ace2f97e936f2d4c", func := "lemmata/lemmatalaw5.DfaAll", spec := "dfaAll", recurses := true, apart := false }
def DfaAllSaid : Prop := dfaAllRow.holds Try.pinned (OpenSpec.ofChange dfaAllSpec)

/-- ITS FALSE NEIGHBOUR: 'it returns false'. Refute it at one input. -/
def dfaAllWrong : ChangeSpec := { name := "dfaAll", fn := fun _ => fun
  | [d1, d2, d3] => { results := [.lit (.bool false)], args := [d1, d2, d3] }
  | _ => none }
def DfaAllWrongFalsely : Prop := dfaAllRow.holds Try.pinned (OpenSpec.ofChange dfaAllWrong)

/-- 'lemmatalaw5.DfaWays': WHATEVER THE INPUT: true; the input reads as it did. -/
def dfaWaysSpec : ChangeSpec := { name := "dfaWays", fn := fun _ => fun
  | [d] => { results := [.lit (.bool true)], args := [d] }
  | _ => none }
def dfaWaysRow : OpenClaim := { program := "ytenpjkinpecnfaa", sum := "4b619c1042749d62922d06e466a6a5a9494a228dd672c355ace2f97e936f2d4c", func := "lemmata/lemmatalaw5.DfaWays", spec := "dfaWays", recurses := true, apart := false }
def DfaWaysSaid : Prop := dfaWaysRow.holds Try.pinned (OpenSpec.ofChange dfaWaysSpec)

/-- ITS FALSE NEIGHBOUR: 'it returns false'. Refute it at one input. -/
def dfaWaysWrong : ChangeSpec := { name := "dfaWays", fn := fun _ => fun
  | [d] => { results := [.lit (.bool false)], args := [d] }
  | _ => none }
def DfaWaysWrongFalsely : Prop := dfaWaysRow.holds Try.pinned (OpenSpec.ofChange dfaWaysWrong)

/-- 'lemmatalaw5.DfaMany': WHATEVER THE INPUT: true; the input reads as it did. -/
def dfaManySpec : ChangeSpec := { name := "dfaMany", fn := fun _ => fun
  | [d] => { results := [.lit (.bool true)], args := [d] }
  | _ => none }
def dfaManyRow : OpenClaim := { program := "ytenpjkinpecnfaa", sum := "4b619c1042749d62922d06e466a6a5a9494a228dd672c355ace2f97e936f2d4c", func := "lemmata/lemmatalaw5.DfaMany", spec := "dfaMany", recurses := true, apart := false }
def DfaManySaid : Prop := dfaManyRow.holds Try.pinned (OpenSpec.ofChange dfaManySpec)

/-- ITS FALSE NEIGHBOUR: 'it returns false'. Refute it at one input. -/
def dfaManyWrong : ChangeSpec := { name := "dfaMany", fn := fun _ => fun
  | [d] => { results := [.lit (.bool false)], args := [d] }
  | _ => none }
def DfaManyWrongFalsely : Prop := dfaManyRow.holds Try.pinned (OpenSpec.ofChange dfaManyWrong)

/-- 'lemmatalaw5.DfaWild': WHATEVER THE INPUT: true; the input reads as it did. -/
def dfaWildSpec : ChangeSpec := { name := "dfaWild", fn := fun _ => fun
  | [d1, d2] => { results := [.lit (.bool true)], args := [d1, d2] }
  | _ => none }
def dfaWildRow : OpenClaim := { program := "ytenpjkinpecnfaa", sum := "4b619c1042749d62922d06e466a6a5a9494a228dd672c355ace2f97e936f2d4c", func := "lemmata/lemmatalaw5.DfaWild", spec := "dfaWild", apart := false }
def DfaWildSaid : Prop := dfaWildRow.holds Try.pinned (OpenSpec.ofChange dfaWildSpec)

/-- ITS FALSE NEIGHBOUR: 'it returns false'. Refute it at one input. -/
def dfaWildWrong : ChangeSpec := { name := "dfaWild", fn := fun _ => fun
  | [d1, d2] => { results := [.lit (.bool false)], args := [d1, d2] }
  | _ => none }
def DfaWildWrongFalsely : Prop := dfaWildRow.holds Try.pinned (OpenSpec.ofChange dfaWildWrong)

/-- 'lemmatalaw6.LexCovers': WHATEVER THE INPUT: true; the input reads as it did. -/
def lexCoversSpec : ChangeSpec := { name := "lexCovers", fn := fun _ => fun
  | [d1, d2] => { results := [.lit (.bool true)], args := [d1, d2] }
  | _ => none }
def lexCoversRow : OpenClaim := { program := "ytenpjkinpecnfaa", sum := "4b619c1042749d62922d06e466a6a5a9494a228dd672c355ace2f97e936f2d4c", func := "lemmata/lemmatalaw6.LexCovers", spec := "lexCovers", inPlace := ["internal/bytealg.IndexByteString"], unfollowed := true, recurses := true, apart := false }
def LexCoversSaid : Prop := lexCoversRow.holds Try.pinned (OpenSpec.ofChange lexCoversSpec)

/-- ITS FALSE NEIGHBOUR: 'it returns false'. Refute it at one input. -/
def lexCoversWrong : ChangeSpec := { name := "lexCovers", fn := fun _ => fun
  | [d1, d2] => { results := [.lit (.bool false)], args := [d1, d2] }
  | _ => none }
def LexCoversWrongFalsely : Prop := lexCoversRow.holds Try.pinned (OpenSpec.ofChange lexCoversWrong)

/-- 'lemmatalaw6.LexRows': WHATEVER THE INPUT: true; the input reads as it did. -/
def lexRowsSpec : ChangeSpec := { name := "lexRows", fn := fun _ => fun
  | [d] => { results := [.lit (.bool true)], args := [d] }
  | _ => none }
def lexRowsRow : OpenClaim := { program := "ytenpjkinpecnfaa", sum := "4b619c1042749d62922d06e466a6a5a9494a228dd672c355ace2f97e936f2d4c", func := "lemmata/lemmatalaw6.LexRows", spec := "lexRows", inPlace := ["internal/bytealg.IndexByteString"], unfollowed := true, recurses := true, apart := false }
def LexRowsSaid : Prop := lexRowsRow.holds Try.pinned (OpenSpec.ofChange lexRowsSpec)

/-- ITS FALSE NEIGHBOUR: 'it returns false'. Refute it at one input. -/
def lexRowsWrong : ChangeSpec := { name := "lexRows", fn := fun _ => fun
  | [d] => { results := [.lit (.bool false)], args := [d] }
  | _ => none }
def LexRowsWrongFalsely : Prop := lexRowsRow.holds Try.pinned (OpenSpec.ofChange lexRowsWrong)

/-- 'lemmatalaw6.LexForms': WHATEVER THE INPUT: true; the input reads as it did. -/
def lexFormsSpec : ChangeSpec := { name := "lexForms", fn := fun _ => fun
  | [] => { results := [.lit (.bool true)], args := [] }
  | _ => none }
def lexFormsRow : OpenClaim := { program := "ytenpjkinpecnfaa", sum := "4b619c1042749d62922d06e466a6a5a9494a228dd672c355ace2f97e936f2d4c", func := "lemmata/lemmatalaw6.LexForms", spec := "lexForms", inPlace := ["internal/bytealg.IndexByteString"], unfollowed := true, recurses := true, apart := false }
def LexFormsSaid : Prop := lexFormsRow.holds Try.pinned (OpenSpec.ofChange lexFormsSpec)

/-- ITS FALSE NEIGHBOUR: 'it returns false'. Refute it at one input. -/
def lexFormsWrong : ChangeSpec := { name := "lexForms", fn := fun _ => fun
  | [] => { results := [.lit (.bool false)], args := [] }
  | _ => none }
def LexFormsWrongFalsely : Prop := lexFormsRow.holds Try.pinned (OpenSpec.ofChange lexFormsWrong)

/-- 'lemmatalaw7.RelexAll': WHATEVER THE INPUT: true; the input reads as it did. -/
def relexAllSpec : ChangeSpec := { name := "relexAll", fn := fun _ => fun
  | [d1, d2, d3] => { results := [.lit (.bool true)], args := [d1, d2, d3] }
  | _ => none }
def relexAllRow : OpenClaim := { program := "ytenpjkinpecnfaa", sum := "4b619c1042749d62922d06e466a6a5a9494a228dd672c355ace2f97e936f2d4c", func := "lemmata/lemmatalaw7.RelexAll", spec := "relexAll", inPlace := ["internal/bytealg.IndexByteString"], unfollowed := true, recurses := true, apart := false }
def RelexAllSaid : Prop := relexAllRow.holds Try.pinned (OpenSpec.ofChange relexAllSpec)

/-- ITS FALSE NEIGHBOUR: 'it returns false'. Refute it at one input. -/
def relexAllWrong : ChangeSpec := { name := "relexAll", fn := fun _ => fun
  | [d1, d2, d3] => { results := [.lit (.bool false)], args := [d1, d2, d3] }
  | _ => none }
def RelexAllWrongFalsely : Prop := relexAllRow.holds Try.pinned (OpenSpec.ofChange relexAllWrong)

/-- 'lemmatalaw7.RelexNone': WHATEVER THE INPUT: true; the input reads as it did. -/
def relexNoneSpec : ChangeSpec := { name := "relexNone", fn := fun _ => fun
  | [d1, d2, d3, d4] => { results := [.lit (.bool true)], args := [d1, d2, d3, d4] }
  | _ => none }
def relexNoneRow : OpenClaim := { program := "ytenpjkinpecnfaa", sum := "4b619c1042749d62922d06e466a6a5a9494a228dd672c355ace2f97e936f2d4c", func := "lemmata/lemmatalaw7.RelexNone", spec := "relexNone", inPlace := ["internal/bytealg.IndexByteString"], unfollowed := true, recurses := true, apart := false }
def RelexNoneSaid : Prop := relexNoneRow.holds Try.pinned (OpenSpec.ofChange relexNoneSpec)

/-- ITS FALSE NEIGHBOUR: 'it returns false'. Refute it at one input. -/
def relexNoneWrong : ChangeSpec := { name := "relexNone", fn := fun _ => fun
  | [d1, d2, d3, d4] => { results := [.lit (.bool false)], args := [d1, d2, d3, d4] }
  | _ => none }
def RelexNoneWrongFalsely : Prop := relexNoneRow.holds Try.pinned (OpenSpec.ofChange relexNoneWrong)

/-- 'lemmatalaw7.RelexFew': WHATEVER THE INPUT: true; the input reads as it did. -/
def relexFewSpec : ChangeSpec := { name := "relexFew", fn := fun _ => fun
  | [d1, d2, d3] => { results := [.lit (.bool true)], args := [d1, d2, d3] }
  | _ => none }
def relexFewRow : OpenClaim := { program := "ytenpjkinpecnfaa", sum := "4b619c1042749d62922d06e466a6a5a9494a228dd672c355ace2f97e936f2d4c", func := "lemmata/lemmatalaw7.RelexFew", spec := "relexFew", inPlace := ["internal/bytealg.IndexByteString"], unfollowed := true, recurses := true, apart := false }
def RelexFewSaid : Prop := relexFewRow.holds Try.pinned (OpenSpec.ofChange relexFewSpec)

/-- ITS FALSE NEIGHBOUR: 'it returns false'. Refute it at one input. -/
def relexFewWrong : ChangeSpec := { name := "relexFew", fn := fun _ => fun
  | [d1, d2, d3] => { results := [.lit (.bool false)], args := [d1, d2, d3] }
  | _ => none }
def RelexFewWrongFalsely : Prop := relexFewRow.holds Try.pinned (OpenSpec.ofChange relexFewWrong)

/- THE SECOND FORM. 'bulk': how many values and letters a reading holds, each counted each time it is reached (what is shared counts as often as it is met; a slice's spare places count too). A statement '..UptoSaid' is the law's where the arguments, and the package variables that the reading takes, are together of bulk at most 1048576: NARROWER than '..Said'. Prove '..Said' where nothing that the law and all that it calls make is longer than what came in: it says more and counts as full. Else prove '..UptoSaid'. A law counts once. -/
mutual
def uptoBulk {H : Type} : DataW H → Nat
  | .lit (.string bytes) => bytes.length + 1
  | .lit _ => 1
  | .nil => 1
  | .ptr d => uptoBulk d + 1
  | .slice elems spare => uptoBulkAll elems + uptoBulkAll spare + 1
  | .agg parts => uptoBulkAll parts + 1
  | .iface _ d => uptoBulk d + 1
  | .map entries => uptoBulkEntries entries + 1
  | .held _ => 1
def uptoBulkAll {H : Type} : List (DataW H) → Nat
  | [] => 0
  | d :: r => uptoBulk d + uptoBulkAll r
def uptoBulkEntries {H : Type} : List (Lit × DataW H) → Nat
  | [] => 0
  | x :: r => uptoBulkEntry x + uptoBulkEntries r
def uptoBulkEntry {H : Type} : Lit × DataW H → Nat
  | (.string bytes, d) => bytes.length + uptoBulk d + 1
  | (_, d) => uptoBulk d + 1
 end
def uptoSmall : (H : Type) → List (DataW H) → Bool := fun _ ds => decide (uptoBulkAll ds ≤ 1048576)
def OpenSpec.upto (s : _root_.Go.ChangeSpec) : _root_.Go.OpenSpec := { _root_.Go.OpenSpec.ofChange s with cond := some uptoSmall }

/-- 'lemmatalaw3.RexAll', WHERE WHAT IT READS IS OF BULK AT MOST 1048576: true; the input reads as it did. -/
def rexAllUptoRow : OpenClaim := { program := "ytenpjkinpecnfaa", sum := "4b619c1042749d62922d06e466a6a5a9494a228dd672c355ace2f97e936f2d4c", func := "lemmata/lemmatalaw3.RexAll", spec := "rexAll", inPlace := ["internal/bytealg.IndexByteString"], unfollowed := true, recurses := true, apart := false, narrowed := true }
def RexAllUptoSaid : Prop := rexAllUptoRow.holds Try.pinned (OpenSpec.upto rexAllSpec)

/-- 'lemmatalaw3.RexCount', WHERE WHAT IT READS IS OF BULK AT MOST 1048576: true; the input reads as it did. -/
def rexCountUptoRow : OpenClaim := { program := "ytenpjkinpecnfaa", sum := "4b619c1042749d62922d06e466a6a5a9494a228dd672c355ace2f97e936f2d4c", func := "lemmata/lemmatalaw3.RexCount", spec := "rexCount", inPlace := ["internal/bytealg.IndexByteString"], unfollowed := true, recurses := true, apart := false, narrowed := true }
def RexCountUptoSaid : Prop := rexCountUptoRow.holds Try.pinned (OpenSpec.upto rexCountSpec)

/-- 'lemmatalaw3.RexForms', WHERE WHAT IT READS IS OF BULK AT MOST 1048576: true; the input reads as it did. -/
def rexFormsUptoRow : OpenClaim := { program := "ytenpjkinpecnfaa", sum := "4b619c1042749d62922d06e466a6a5a9494a228dd672c355ace2f97e936f2d4c", func := "lemmata/lemmatalaw3.RexForms", spec := "rexForms", inPlace := ["internal/bytealg.IndexByteString"], unfollowed := true, recurses := true, apart := false, narrowed := true }
def RexFormsUptoSaid : Prop := rexFormsUptoRow.holds Try.pinned (OpenSpec.upto rexFormsSpec)

/-- 'lemmatalaw3.RexRound', WHERE WHAT IT READS IS OF BULK AT MOST 1048576: true; the input reads as it did. -/
def rexRoundUptoRow : OpenClaim := { program := "ytenpjkinpecnfaa", sum := "4b619c1042749d62922d06e466a6a5a9494a228dd672c355ace2f97e936f2d4c", func := "lemmata/lemmatalaw3.RexRound", spec := "rexRound", inPlace := ["internal/bytealg.IndexByteString"], unfollowed := true, recurses := true, apart := false, narrowed := true }
def RexRoundUptoSaid : Prop := rexRoundUptoRow.holds Try.pinned (OpenSpec.upto rexRoundSpec)

/-- 'lemmatalaw4.NfaAll', WHERE WHAT IT READS IS OF BULK AT MOST 1048576: true; the input reads as it did. -/
def nfaAllUptoRow : OpenClaim := { program := "ytenpjkinpecnfaa", sum := "4b619c1042749d62922d06e466a6a5a9494a228dd672c355ace2f97e936f2d4c", func := "lemmata/lemmatalaw4.NfaAll", spec := "nfaAll", recurses := true, apart := false, narrowed := true }
def NfaAllUptoSaid : Prop := nfaAllUptoRow.holds Try.pinned (OpenSpec.upto nfaAllSpec)

/-- 'lemmatalaw4.NfaEach', WHERE WHAT IT READS IS OF BULK AT MOST 1048576: true; the input reads as it did. -/
def nfaEachUptoRow : OpenClaim := { program := "ytenpjkinpecnfaa", sum := "4b619c1042749d62922d06e466a6a5a9494a228dd672c355ace2f97e936f2d4c", func := "lemmata/lemmatalaw4.NfaEach", spec := "nfaEach", recurses := true, apart := false, narrowed := true }
def NfaEachUptoSaid : Prop := nfaEachUptoRow.holds Try.pinned (OpenSpec.upto nfaEachSpec)

/-- 'lemmatalaw4.NfaForms', WHERE WHAT IT READS IS OF BULK AT MOST 1048576: true; the input reads as it did. -/
def nfaFormsUptoRow : OpenClaim := { program := "ytenpjkinpecnfaa", sum := "4b619c1042749d62922d06e466a6a5a9494a228dd672c355ace2f97e936f2d4c", func := "lemmata/lemmatalaw4.NfaForms", spec := "nfaForms", recurses := true, apart := false, narrowed := true }
def NfaFormsUptoSaid : Prop := nfaFormsUptoRow.holds Try.pinned (OpenSpec.upto nfaFormsSpec)

/-- 'lemmatalaw4.NfaMore', WHERE WHAT IT READS IS OF BULK AT MOST 1048576: true; the input reads as it did. -/
def nfaMoreUptoRow : OpenClaim := { program := "ytenpjkinpecnfaa", sum := "4b619c1042749d62922d06e466a6a5a9494a228dd672c355ace2f97e936f2d4c", func := "lemmata/lemmatalaw4.NfaMore", spec := "nfaMore", recurses := true, apart := false, narrowed := true }
def NfaMoreUptoSaid : Prop := nfaMoreUptoRow.holds Try.pinned (OpenSpec.upto nfaMoreSpec)

/-- 'lemmatalaw5.DfaAll', WHERE WHAT IT READS IS OF BULK AT MOST 1048576: true; the input reads as it did. -/
def dfaAllUptoRow : OpenClaim := { program := "ytenpjkinpecnfaa", sum := "4b619c1042749d62922d06e466a6a5a9494a228dd672c355ace2f97e936f2d4c", func := "lemmata/lemmatalaw5.DfaAll", spec := "dfaAll", recurses := true, apart := false, narrowed := true }
def DfaAllUptoSaid : Prop := dfaAllUptoRow.holds Try.pinned (OpenSpec.upto dfaAllSpec)

/-- 'lemmatalaw5.DfaWays', WHERE WHAT IT READS IS OF BULK AT MOST 1048576: true; the input reads as it did. -/
def dfaWaysUptoRow : OpenClaim := { program := "ytenpjkinpecnfaa", sum := "4b619c1042749d62922d06e466a6a5a9494a228dd672c355ace2f97e936f2d4c", func := "lemmata/lemmatalaw5.DfaWays", spec := "dfaWays", recurses := true, apart := false, narrowed := true }
def DfaWaysUptoSaid : Prop := dfaWaysUptoRow.holds Try.pinned (OpenSpec.upto dfaWaysSpec)

/-- 'lemmatalaw5.DfaMany', WHERE WHAT IT READS IS OF BULK AT MOST 1048576: true; the input reads as it did. -/
def dfaManyUptoRow : OpenClaim := { program := "ytenpjkinpecnfaa", sum := "4b619c1042749d62922d06e466a6a5a9494a228dd672c355ace2f97e936f2d4c", func := "lemmata/lemmatalaw5.DfaMany", spec := "dfaMany", recurses := true, apart := false, narrowed := true }
def DfaManyUptoSaid : Prop := dfaManyUptoRow.holds Try.pinned (OpenSpec.upto dfaManySpec)

/-- 'lemmatalaw5.DfaWild', WHERE WHAT IT READS IS OF BULK AT MOST 1048576: true; the input reads as it did. -/
def dfaWildUptoRow : OpenClaim := { program := "ytenpjkinpecnfaa", sum := "4b619c1042749d62922d06e466a6a5a9494a228dd672c355ace2f97e936f2d4c", func := "lemmata/lemmatalaw5.DfaWild", spec := "dfaWild", apart := false, narrowed := true }
def DfaWildUptoSaid : Prop := dfaWildUptoRow.holds Try.pinned (OpenSpec.upto dfaWildSpec)

/-- 'lemmatalaw6.LexCovers', WHERE WHAT IT READS IS OF BULK AT MOST 1048576: true; the input reads as it did. -/
def lexCoversUptoRow : OpenClaim := { program := "ytenpjkinpecnfaa", sum := "4b619c1042749d62922d06e466a6a5a9494a228dd672c355ace2f97e936f2d4c", func := "lemmata/lemmatalaw6.LexCovers", spec := "lexCovers", inPlace := ["internal/bytealg.IndexByteString"], unfollowed := true, recurses := true, apart := false, narrowed := true }
def LexCoversUptoSaid : Prop := lexCoversUptoRow.holds Try.pinned (OpenSpec.upto lexCoversSpec)

/-- 'lemmatalaw6.LexRows', WHERE WHAT IT READS IS OF BULK AT MOST 1048576: true; the input reads as it did. -/
def lexRowsUptoRow : OpenClaim := { program := "ytenpjkinpecnfaa", sum := "4b619c1042749d62922d06e466a6a5a9494a228dd672c355ace2f97e936f2d4c", func := "lemmata/lemmatalaw6.LexRows", spec := "lexRows", inPlace := ["internal/bytealg.IndexByteString"], unfollowed := true, recurses := true, apart := false, narrowed := true }
def LexRowsUptoSaid : Prop := lexRowsUptoRow.holds Try.pinned (OpenSpec.upto lexRowsSpec)

/-- 'lemmatalaw6.LexForms', WHERE WHAT IT READS IS OF BULK AT MOST 1048576: true; the input reads as it did. -/
def lexFormsUptoRow : OpenClaim := { program := "ytenpjkinpecnfaa", sum := "4b619c1042749d62922d06e466a6a5a9494a228dd672c355ace2f97e936f2d4c", func := "lemmata/lemmatalaw6.LexForms", spec := "lexForms", inPlace := ["internal/bytealg.IndexByteString"], unfollowed := true, recurses := true, apart := false, narrowed := true }
def LexFormsUptoSaid : Prop := lexFormsUptoRow.holds Try.pinned (OpenSpec.upto lexFormsSpec)

/-- 'lemmatalaw7.RelexAll', WHERE WHAT IT READS IS OF BULK AT MOST 1048576: true; the input reads as it did. -/
def relexAllUptoRow : OpenClaim := { program := "ytenpjkinpecnfaa", sum := "4b619c1042749d62922d06e466a6a5a9494a228dd672c355ace2f97e936f2d4c", func := "lemmata/lemmatalaw7.RelexAll", spec := "relexAll", inPlace := ["internal/bytealg.IndexByteString"], unfollowed := true, recurses := true, apart := false, narrowed := true }
def RelexAllUptoSaid : Prop := relexAllUptoRow.holds Try.pinned (OpenSpec.upto relexAllSpec)

/-- 'lemmatalaw7.RelexNone', WHERE WHAT IT READS IS OF BULK AT MOST 1048576: true; the input reads as it did. -/
def relexNoneUptoRow : OpenClaim := { program := "ytenpjkinpecnfaa", sum := "4b619c1042749d62922d06e466a6a5a9494a228dd672c355ace2f97e936f2d4c", func := "lemmata/lemmatalaw7.RelexNone", spec := "relexNone", inPlace := ["internal/bytealg.IndexByteString"], unfollowed := true, recurses := true, apart := false, narrowed := true }
def RelexNoneUptoSaid : Prop := relexNoneUptoRow.holds Try.pinned (OpenSpec.upto relexNoneSpec)

/-- 'lemmatalaw7.RelexFew', WHERE WHAT IT READS IS OF BULK AT MOST 1048576: true; the input reads as it did. -/
def relexFewUptoRow : OpenClaim := { program := "ytenpjkinpecnfaa", sum := "4b619c1042749d62922d06e466a6a5a9494a228dd672c355ace2f97e936f2d4c", func := "lemmata/lemmatalaw7.RelexFew", spec := "relexFew", inPlace := ["internal/bytealg.IndexByteString"], unfollowed := true, recurses := true, apart := false, narrowed := true }
def RelexFewUptoSaid : Prop := relexFewUptoRow.holds Try.pinned (OpenSpec.upto relexFewSpec)

end Rows
end Go.Proofs.Ytenpjkinpecnfaa
