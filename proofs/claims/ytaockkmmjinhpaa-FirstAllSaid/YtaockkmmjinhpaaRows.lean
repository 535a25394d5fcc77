/-
  NARROWER THAN 'FOR EVERY INPUT', by the rows' own cells (each row's printed sentence says how): GramAll: loops.
  DERIVED. THE GIVEN ROWS OF THIS SEAT. 13 by the template 'for every input the law returns true; each argument reads behind the call as it read before'; 0 by the template 'total and deterministic' (their statements: YtaockkmmjinhpaaTotals.lean).
  GIVEN WITH THE SEED: the statements are not yours to turn. If you find one false, say at which input.
  Laid BY PROGRAM, IN A SANDBOX (cutbox-rows.mjs): the forced cells as the released guide's own fill.sh prints them over the translation f90d06311f2e8ad0… (all of the seat's roots in one cut). By AI agents, Wed Nov 11 2026. No macro, syntax, notation, axiom, sorry.
-/
import Derived.Test.YtaockkmmjinhpaaChecked
import GoSem.Claim
import GoSem.ClaimJoined
import GoSem.ClaimMapViews
import Derived.JoinedTies
import Derived.KernelRfl
namespace Go.Proofs.Ytaockkmmjinhpaa
/- THE CELL 'sum', in the pinned program and in every row, IS THE sha256 OF THE DUMP (.gsa) THAT YtaockkmmjinhpaaProg.lean LOADS. Nothing in Lean hashes anything: it is a label: what it is worth is what the hold of that sum in a sandbox is worth. -/
noncomputable def Try.pinned : Pinned := { name := "ytaockkmmjinhpaa", sum := "f90d06311f2e8ad04f77cfcf96453bccf634ebe9379c953e2991bd790c0df6c6", checked := Try.checked }
namespace Rows
def none {H : Type} : Left H := { results := [], args := [] }

/-- 'lemmatalaw8.PieceAll': WHATEVER THE INPUT: true; the input reads as it did. -/
def pieceAllSpec : ChangeSpec := { name := "pieceAll", fn := fun _ => fun
  | [d1, d2] => { results := [.lit (.bool true)], args := [d1, d2] }
  | _ => none }
def pieceAllRow : OpenClaim := { program := "ytaockkmmjinhpaa", sum := "f90d06311f2e8ad04f77cfcf96453bccf634ebe9379c953e2991bd790c0df6c6", func := "lemmata/lemmatalaw8.PieceAll", spec := "pieceAll", inPlace := ["internal/abi.NoEscape"], unfollowed := true, recurses := true, apart := false }
def PieceAllSaid : Prop := pieceAllRow.holds Try.pinned (OpenSpec.ofChange pieceAllSpec)

/-- ITS FALSE NEIGHBOUR: 'it returns false'. Refute it at one input. -/
def pieceAllWrong : ChangeSpec := { name := "pieceAll", fn := fun _ => fun
  | [d1, d2] => { results := [.lit (.bool false)], args := [d1, d2] }
  | _ => none }
def PieceAllWrongFalsely : Prop := pieceAllRow.holds Try.pinned (OpenSpec.ofChange pieceAllWrong)

/-- 'lemmatalaw8.PieceMay': WHATEVER THE INPUT: true; the input reads as it did. -/
def pieceMaySpec : ChangeSpec := { name := "pieceMay", fn := fun _ => fun
  | [d1, d2, d3] => { results := [.lit (.bool true)], args := [d1, d2, d3] }
  | _ => none }
def pieceMayRow : OpenClaim := { program := "ytaockkmmjinhpaa", sum := "f90d06311f2e8ad04f77cfcf96453bccf634ebe9379c953e2991bd790c0df6c6", func := "lemmata/lemmatalaw8.PieceMay", spec := "pieceMay", inPlace := ["internal/abi.NoEscape"], unfollowed := true, recurses := true, apart := false }
def PieceMaySaid : Prop := pieceMayRow.holds Try.pinned (OpenSpec.ofChange pieceMaySpec)

/-- ITS FALSE NEIGHBOUR: 'it returns false'. Refute it at one input. -/
def pieceMayWrong : ChangeSpec := { name := "pieceMay", fn := fun _ => fun
  | [d1, d2, d3] => { results := [.lit (.bool false)], args := [d1, d2, d3] }
  | _ => none }
def PieceMayWrongFalsely : Prop := pieceMayRow.holds Try.pinned (OpenSpec.ofChange pieceMayWrong)

/-- 'lemmatalaw8.PieceForms': WHATEVER THE INPUT: true; the input reads as it did. -/
def pieceFormsSpec : ChangeSpec := { name := "pieceForms", fn := fun _ => fun
  | [] => { results := [.lit (.bool true)], args := [] }
  | _ => none }
def pieceFormsRow : OpenClaim := { program := "ytaockkmmjinhpaa", sum := "f90d06311f2e8ad04f77cfcf96453bccf634ebe9379c953e2991bd790c0df6c6", func := "lemmata/lemmatalaw8.PieceForms", spec := "pieceForms", inPlace := ["internal/abi.NoEscape"], unfollowed := true, recurses := true, apart := false }
def PieceFormsSaid : Prop := pieceFormsRow.holds Try.pinned (OpenSpec.ofChange pieceFormsSpec)

/-- ITS FALSE NEIGHBOUR: 'it returns false'. Refute it at one input. -/
def pieceFormsWrong : ChangeSpec := { name := "pieceForms", fn := fun _ => fun
  | [] => { results := [.lit (.bool false)], args := [] }
  | _ => none }
def PieceFormsWrongFalsely : Prop := pieceFormsRow.holds Try.pinned (OpenSpec.ofChange pieceFormsWrong)

/-- 'lemmatalaw8.PieceBack': WHATEVER THE INPUT: true; the input reads as it did. -/
def pieceBackSpec : ChangeSpec := { name := "pieceBack", fn := fun _ => fun
  | [d1, d2] => { results := [.lit (.bool true)], args := [d1, d2] }
  | _ => none }
def pieceBackRow : OpenClaim := { program := "ytaockkmmjinhpaa", sum := "f90d06311f2e8ad04f77cfcf96453bccf634ebe9379c953e2991bd790c0df6c6", func := "lemmata/lemmatalaw8.PieceBack", spec := "pieceBack", inPlace := ["internal/abi.NoEscape"], unfollowed := true, recurses := true, apart := false }
def PieceBackSaid : Prop := pieceBackRow.holds Try.pinned (OpenSpec.ofChange pieceBackSpec)

/-- ITS FALSE NEIGHBOUR: 'it returns false'. Refute it at one input. -/
def pieceBackWrong : ChangeSpec := { name := "pieceBack", fn := fun _ => fun
  | [d1, d2] => { results := [.lit (.bool false)], args := [d1, d2] }
  | _ => none }
def PieceBackWrongFalsely : Prop := pieceBackRow.holds Try.pinned (OpenSpec.ofChange pieceBackWrong)

/-- 'lemmatalaw11.GramAll': WHATEVER THE INPUT: true; the input reads as it did. -/
def gramAllSpec : ChangeSpec := { name := "gramAll", fn := fun _ => fun
  | [d1, d2, d3, d4, d5] => { results := [.lit (.bool true)], args := [d1, d2, d3, d4, d5] }
  | _ => none }
def gramAllRow : OpenClaim := { program := "ytaockkmmjinhpaa", sum := "f90d06311f2e8ad04f77cfcf96453bccf634ebe9379c953e2991bd790c0df6c6", func := "lemmata/lemmatalaw11.GramAll", spec := "gramAll", unfollowed := true, recurses := true, loops := true, apart := false }
def GramAllSaid : Prop := gramAllRow.holds Try.pinned (OpenSpec.ofChange gramAllSpec)

/-- ITS FALSE NEIGHBOUR: 'it returns false'. Refute it at one input. -/
def gramAllWrong : ChangeSpec := { name := "gramAll", fn := fun _ => fun
  | [d1, d2, d3, d4, d5] => { results := [.lit (.bool false)], args := [d1, d2, d3, d4, d5] }
  | _ => none }
def GramAllWrongFalsely : Prop := gramAllRow.holds Try.pinned (OpenSpec.ofChange gramAllWrong)

/-- 'lemmatalaw11.GramOffset': WHATEVER THE INPUT: true; the input reads as it did. -/
def gramOffsetSpec : ChangeSpec := { name := "gramOffset", fn := fun _ => fun
  | [d] => { results := [.lit (.bool true)], args := [d] }
  | _ => none }
def gramOffsetRow : OpenClaim := { program := "ytaockkmmjinhpaa", sum := "f90d06311f2e8ad04f77cfcf96453bccf634ebe9379c953e2991bd790c0df6c6", func := "lemmata/lemmatalaw11.GramOffset", spec := "gramOffset", unfollowed := true, recurses := true, apart := false }
def GramOffsetSaid : Prop := gramOffsetRow.holds Try.pinned (OpenSpec.ofChange gramOffsetSpec)

/-- ITS FALSE NEIGHBOUR: 'it returns false'. Refute it at one input. -/
def gramOffsetWrong : ChangeSpec := { name := "gramOffset", fn := fun _ => fun
  | [d] => { results := [.lit (.bool false)], args := [d] }
  | _ => none }
def GramOffsetWrongFalsely : Prop := gramOffsetRow.holds Try.pinned (OpenSpec.ofChange gramOffsetWrong)

/-- 'lemmatalaw12.FirstAll': WHATEVER THE INPUT: true; the input reads as it did. -/
def firstAllSpec : ChangeSpec := { name := "firstAll", fn := fun _ => fun
  | [d1, d2] => { results := [.lit (.bool true)], args := [d1, d2] }
  | _ => none }
def firstAllRow : OpenClaim := { program := "ytaockkmmjinhpaa", sum := "f90d06311f2e8ad04f77cfcf96453bccf634ebe9379c953e2991bd790c0df6c6", func := "lemmata/lemmatalaw12.FirstAll", spec := "firstAll", unfollowed := true, recurses := true, apart := false }
def FirstAllSaid : Prop := firstAllRow.holds Try.pinned (OpenSpec.ofChange firstAllSpec)

/-- ITS FALSE NEIGHBOUR: 'it returns false'. Refute it at one input. -/
def firstAllWrong : ChangeSpec := { name := "firstAll", fn := fun _ => fun
  | [d1, d2] => { results := [.lit (.bool false)], args := [d1, d2] }
  | _ => none }
def FirstAllWrongFalsely : Prop := firstAllRow.holds Try.pinned (OpenSpec.ofChange firstAllWrong)

/-- 'lemmatalaw12.FirstTrue': WHATEVER THE INPUT: true; the input reads as it did. -/
def firstTrueSpec : ChangeSpec := { name := "firstTrue", fn := fun _ => fun
  | [d1, d2] => { results := [.lit (.bool true)], args := [d1, d2] }
  | _ => none }
def firstTrueRow : OpenClaim := { program := "ytaockkmmjinhpaa", sum := "f90d06311f2e8ad04f77cfcf96453bccf634ebe9379c953e2991bd790c0df6c6", func := "lemmata/lemmatalaw12.FirstTrue", spec := "firstTrue", unfollowed := true, recurses := true, apart := false }
def FirstTrueSaid : Prop := firstTrueRow.holds Try.pinned (OpenSpec.ofChange firstTrueSpec)

/-- ITS FALSE NEIGHBOUR: 'it returns false'. Refute it at one input. -/
def firstTrueWrong : ChangeSpec := { name := "firstTrue", fn := fun _ => fun
  | [d1, d2] => { results := [.lit (.bool false)], args := [d1, d2] }
  | _ => none }
def FirstTrueWrongFalsely : Prop := firstTrueRow.holds Try.pinned (OpenSpec.ofChange firstTrueWrong)

/-- 'lemmatalaw12.FirstMore': WHATEVER THE INPUT: true; the input reads as it did. -/
def firstMoreSpec : ChangeSpec := { name := "firstMore", fn := fun _ => fun
  | [d1, d2] => { results := [.lit (.bool true)], args := [d1, d2] }
  | _ => none }
def firstMoreRow : OpenClaim := { program := "ytaockkmmjinhpaa", sum := "f90d06311f2e8ad04f77cfcf96453bccf634ebe9379c953e2991bd790c0df6c6", func := "lemmata/lemmatalaw12.FirstMore", spec := "firstMore", unfollowed := true, recurses := true, apart := false }
def FirstMoreSaid : Prop := firstMoreRow.holds Try.pinned (OpenSpec.ofChange firstMoreSpec)

/-- ITS FALSE NEIGHBOUR: 'it returns false'. Refute it at one input. -/
def firstMoreWrong : ChangeSpec := { name := "firstMore", fn := fun _ => fun
  | [d1, d2] => { results := [.lit (.bool false)], args := [d1, d2] }
  | _ => none }
def FirstMoreWrongFalsely : Prop := firstMoreRow.holds Try.pinned (OpenSpec.ofChange firstMoreWrong)

/-- 'lemmatalaw12.FirstRow': WHATEVER THE INPUT: true; the input reads as it did. -/
def firstRowSpec : ChangeSpec := { name := "firstRow", fn := fun _ => fun
  | [d1, d2, d3] => { results := [.lit (.bool true)], args := [d1, d2, d3] }
  | _ => none }
def firstRowRow : OpenClaim := { program := "ytaockkmmjinhpaa", sum := "f90d06311f2e8ad04f77cfcf96453bccf634ebe9379c953e2991bd790c0df6c6", func := "lemmata/lemmatalaw12.FirstRow", spec := "firstRow", unfollowed := true, recurses := true, apart := false }
def FirstRowSaid : Prop := firstRowRow.holds Try.pinned (OpenSpec.ofChange firstRowSpec)

/-- ITS FALSE NEIGHBOUR: 'it returns false'. Refute it at one input. -/
def firstRowWrong : ChangeSpec := { name := "firstRow", fn := fun _ => fun
  | [d1, d2, d3] => { results := [.lit (.bool false)], args := [d1, d2, d3] }
  | _ => none }
def FirstRowWrongFalsely : Prop := firstRowRow.holds Try.pinned (OpenSpec.ofChange firstRowWrong)

/-- 'lemmatalaw13.LlAll': WHATEVER THE INPUT: true; the input reads as it did. -/
def llAllSpec : ChangeSpec := { name := "llAll", fn := fun _ => fun
  | [d1, d2] => { results := [.lit (.bool true)], args := [d1, d2] }
  | _ => none }
def llAllRow : OpenClaim := { program := "ytaockkmmjinhpaa", sum := "f90d06311f2e8ad04f77cfcf96453bccf634ebe9379c953e2991bd790c0df6c6", func := "lemmata/lemmatalaw13.LlAll", spec := "llAll", unfollowed := true, recurses := true, apart := false }
def LlAllSaid : Prop := llAllRow.holds Try.pinned (OpenSpec.ofChange llAllSpec)

/-- ITS FALSE NEIGHBOUR: 'it returns false'. Refute it at one input. -/
def llAllWrong : ChangeSpec := { name := "llAll", fn := fun _ => fun
  | [d1, d2] => { results := [.lit (.bool false)], args := [d1, d2] }
  | _ => none }
def LlAllWrongFalsely : Prop := llAllRow.holds Try.pinned (OpenSpec.ofChange llAllWrong)

/-- 'lemmatalaw13.LlClash': WHATEVER THE INPUT: true; the input reads as it did. -/
def llClashSpec : ChangeSpec := { name := "llClash", fn := fun _ => fun
  | [d1, d2] => { results := [.lit (.bool true)], args := [d1, d2] }
  | _ => none }
def llClashRow : OpenClaim := { program := "ytaockkmmjinhpaa", sum := "f90d06311f2e8ad04f77cfcf96453bccf634ebe9379c953e2991bd790c0df6c6", func := "lemmata/lemmatalaw13.LlClash", spec := "llClash", unfollowed := true, recurses := true, apart := false }
def LlClashSaid : Prop := llClashRow.holds Try.pinned (OpenSpec.ofChange llClashSpec)

/-- ITS FALSE NEIGHBOUR: 'it returns false'. Refute it at one input. -/
def llClashWrong : ChangeSpec := { name := "llClash", fn := fun _ => fun
  | [d1, d2] => { results := [.lit (.bool false)], args := [d1, d2] }
  | _ => none }
def LlClashWrongFalsely : Prop := llClashRow.holds Try.pinned (OpenSpec.ofChange llClashWrong)

/-- 'lemmatalaw13.LlNone': WHATEVER THE INPUT: true; the input reads as it did. -/
def llNoneSpec : ChangeSpec := { name := "llNone", fn := fun _ => fun
  | [d] => { results := [.lit (.bool true)], args := [d] }
  | _ => none }
def llNoneRow : OpenClaim := { program := "ytaockkmmjinhpaa", sum := "f90d06311f2e8ad04f77cfcf96453bccf634ebe9379c953e2991bd790c0df6c6", func := "lemmata/lemmatalaw13.LlNone", spec := "llNone", unfollowed := true, recurses := true, apart := false }
def LlNoneSaid : Prop := llNoneRow.holds Try.pinned (OpenSpec.ofChange llNoneSpec)

/-- ITS FALSE NEIGHBOUR: 'it returns false'. Refute it at one input. -/
def llNoneWrong : ChangeSpec := { name := "llNone", fn := fun _ => fun
  | [d] => { results := [.lit (.bool false)], args := [d] }
  | _ => none }
def LlNoneWrongFalsely : Prop := llNoneRow.holds Try.pinned (OpenSpec.ofChange llNoneWrong)

/- THE SECOND FORM. 'bulk': how many values and letters a reading holds, each counted each time it is reached (what is shared counts as often as it is met; a slice's spare places count too). A statement '..UptoSaid' is the law's where the arguments, and the package variables that the reading takes, are together of bulk at most 1048576: NARROWER than '..Said'. Prove '..Said' where nothing that the law and all that it calls make is longer than what came in: it says more and counts as full. Else prove '..UptoSaid'. A law counts once. -/
mutual
def uptoBulk {H : Type} : DataW H → Nat
  | .lit (.string bytes) => bytes.length + 1
  | .lit _ => 1
  | .nil => 1
  | .ptr d => uptoBulk d + 1
  | .slice elems spare => uptoBulkAll elems + uptoBulkAll spare + 1
  | .agg parts => uptoBulkAll parts + 1
  | .iface _ d => uptoBulk d + 1
  | .map entries => uptoBulkEntries entries + 1
  | .held _ => 1
def uptoBulkAll {H : Type} : List (DataW H) → Nat
  | [] => 0
  | d :: r => uptoBulk d + uptoBulkAll r
def uptoBulkEntries {H : Type} : List (Lit × DataW H) → Nat
  | [] => 0
  | x :: r => uptoBulkEntry x + uptoBulkEntries r
def uptoBulkEntry {H : Type} : Lit × DataW H → Nat
  | (.string bytes, d) => bytes.length + uptoBulk d + 1
  | (_, d) => uptoBulk d + 1
 end
def uptoSmall : (H : Type) → List (DataW H) → Bool := fun _ ds => decide (uptoBulkAll ds ≤ 1048576)
def OpenSpec.upto (s : _root_.Go.ChangeSpec) : _root_.Go.OpenSpec := { _root_.Go.OpenSpec.ofChange s with cond := some uptoSmall }

/-- 'lemmatalaw8.PieceAll', WHERE WHAT IT READS IS OF BULK AT MOST 1048576: true; the input reads as it did. -/
def pieceAllUptoRow : OpenClaim := { program := "ytaockkmmjinhpaa", sum := "f90d06311f2e8ad04f77cfcf96453bccf634ebe9379c953e2991bd790c0df6c6", func := "lemmata/lemmatalaw8.PieceAll", spec := "pieceAll", inPlace := ["internal/abi.NoEscape"], unfollowed := true, recurses := true, apart := false, narrowed := true }
def PieceAllUptoSaid : Prop := pieceAllUptoRow.holds Try.pinned (OpenSpec.upto pieceAllSpec)

/-- 'lemmatalaw8.PieceMay', WHERE WHAT IT READS IS OF BULK AT MOST 1048576: true; the input reads as it did. -/
def pieceMayUptoRow : OpenClaim := { program := "ytaockkmmjinhpaa", sum := "f90d06311f2e8ad04f77cfcf96453bccf634ebe9379c953e2991bd790c0df6c6", func := "lemmata/lemmatalaw8.PieceMay", spec := "pieceMay", inPlace := ["internal/abi.NoEscape"], unfollowed := true, recurses := true, apart := false, narrowed := true }
def PieceMayUptoSaid : Prop := pieceMayUptoRow.holds Try.pinned (OpenSpec.upto pieceMaySpec)

/-- 'lemmatalaw8.PieceForms', WHERE WHAT IT READS IS OF BULK AT MOST 1048576: true; the input reads as it did. -/
def pieceFormsUptoRow : OpenClaim := { program := "ytaockkmmjinhpaa", sum := "f90d06311f2e8ad04f77cfcf96453bccf634ebe9379c953e2991bd790c0df6c6", func := "lemmata/lemmatalaw8.PieceForms", spec := "pieceForms", inPlace := ["internal/abi.NoEscape"], unfollowed := true, recurses := true, apart := false, narrowed := true }
def PieceFormsUptoSaid : Prop := pieceFormsUptoRow.holds Try.pinned (OpenSpec.upto pieceFormsSpec)

/-- 'lemmatalaw8.PieceBack', WHERE WHAT IT READS IS OF BULK AT MOST 1048576: true; the input reads as it did. -/
def pieceBackUptoRow : OpenClaim := { program := "ytaockkmmjinhpaa", sum := "f90d06311f2e8ad04f77cfcf96453bccf634ebe9379c953e2991bd790c0df6c6", func := "lemmata/lemmatalaw8.PieceBack", spec := "pieceBack", inPlace := ["internal/abi.NoEscape"], unfollowed := true, recurses := true, apart := false, narrowed := true }
def PieceBackUptoSaid : Prop := pieceBackUptoRow.holds Try.pinned (OpenSpec.upto pieceBackSpec)

/-- 'lemmatalaw11.GramAll', WHERE WHAT IT READS IS OF BULK AT MOST 1048576: true; the input reads as it did. -/
def gramAllUptoRow : OpenClaim := { program := "ytaockkmmjinhpaa", sum := "f90d06311f2e8ad04f77cfcf96453bccf634ebe9379c953e2991bd790c0df6c6", func := "lemmata/lemmatalaw11.GramAll", spec := "gramAll", unfollowed := true, recurses := true, loops := true, apart := false, narrowed := true }
def GramAllUptoSaid : Prop := gramAllUptoRow.holds Try.pinned (OpenSpec.upto gramAllSpec)

/-- 'lemmatalaw11.GramOffset', WHERE WHAT IT READS IS OF BULK AT MOST 1048576: true; the input reads as it did. -/
def gramOffsetUptoRow : OpenClaim := { program := "ytaockkmmjinhpaa", sum := "f90d06311f2e8ad04f77cfcf96453bccf634ebe9379c953e2991bd790c0df6c6", func := "lemmata/lemmatalaw11.GramOffset", spec := "gramOffset", unfollowed := true, recurses := true, apart := false, narrowed := true }
def GramOffsetUptoSaid : Prop := gramOffsetUptoRow.holds Try.pinned (OpenSpec.upto gramOffsetSpec)

/-- 'lemmatalaw12.FirstAll', WHERE WHAT IT READS IS OF BULK AT MOST 1048576: true; the input reads as it did. -/
def firstAllUptoRow : OpenClaim := { program := "ytaockkmmjinhpaa", sum := "f90d06311f2e8ad04f77cfcf96453bccf634ebe9379c953e2991bd790c0df6c6", func := "lemmata/lemmatalaw12.FirstAll", spec := "firstAll", unfollowed := true, recurses := true, apart := false, narrowed := true }
def FirstAllUptoSaid : Prop := firstAllUptoRow.holds Try.pinned (OpenSpec.upto firstAllSpec)

/-- 'lemmatalaw12.FirstTrue', WHERE WHAT IT READS IS OF BULK AT MOST 1048576: true; the input reads as it did. -/
def firstTrueUptoRow : OpenClaim := { program := "ytaockkmmjinhpaa", sum := "f90d06311f2e8ad04f77cfcf96453bccf634ebe9379c953e2991bd790c0df6c6", func := "lemmata/lemmatalaw12.FirstTrue", spec := "firstTrue", unfollowed := true, recurses := true, apart := false, narrowed := true }
def FirstTrueUptoSaid : Prop := firstTrueUptoRow.holds Try.pinned (OpenSpec.upto firstTrueSpec)

/-- 'lemmatalaw12.FirstMore', WHERE WHAT IT READS IS OF BULK AT MOST 1048576: true; the input reads as it did. -/
def firstMoreUptoRow : OpenClaim := { program := "ytaockkmmjinhpaa", sum := "f90d06311f2e8ad04f77cfcf96453bccf634ebe9379c953e2991bd790c0df6c6", func := "lemmata/lemmatalaw12.FirstMore", spec := "firstMore", unfollowed := true, recurses := true, apart := false, narrowed := true }
def FirstMoreUptoSaid : Prop := firstMoreUptoRow.holds Try.pinned (OpenSpec.upto firstMoreSpec)

/-- 'lemmatalaw12.FirstRow', WHERE WHAT IT READS IS OF BULK AT MOST 1048576: true; the input reads as it did. -/
def firstRowUptoRow : OpenClaim := { program := "ytaockkmmjinhpaa", sum := "f90d06311f2e8ad04f77cfcf96453bccf634ebe9379c953e2991bd790c0df6c6", func := "lemmata/lemmatalaw12.FirstRow", spec := "firstRow", unfollowed := true, recurses := true, apart := false, narrowed := true }
def FirstRowUptoSaid : Prop := firstRowUptoRow.holds Try.pinned (OpenSpec.upto firstRowSpec)

/-- 'lemmatalaw13.LlAll', WHERE WHAT IT READS IS OF BULK AT MOST 1048576: true; the input reads as it did. -/
def llAllUptoRow : OpenClaim := { program := "ytaockkmmjinhpaa", sum := "f90d06311f2e8ad04f77cfcf96453bccf634ebe9379c953e2991bd790c0df6c6", func := "lemmata/lemmatalaw13.LlAll", spec := "llAll", unfollowed := true, recurses := true, apart := false, narrowed := true }
def LlAllUptoSaid : Prop := llAllUptoRow.holds Try.pinned (OpenSpec.upto llAllSpec)

/-- 'lemmatalaw13.LlClash', WHERE WHAT IT READS IS OF BULK AT MOST 1048576: true; the input reads as it did. -/
def llClashUptoRow : OpenClaim := { program := "ytaockkmmjinhpaa", sum := "f90d06311f2e8ad04f77cfcf96453bccf634ebe9379c953e2991bd790c0df6c6", func := "lemmata/lemmatalaw13.LlClash", spec := "llClash", unfollowed := true, recurses := true, apart := false, narrowed := true }
def LlClashUptoSaid : Prop := llClashUptoRow.holds Try.pinned (OpenSpec.upto llClashSpec)

/-- 'lemmatalaw13.LlNone', WHERE WHAT IT READS IS OF BULK AT MOST 1048576: true; the input reads as it did. -/
def llNoneUptoRow : OpenClaim := { program := "ytaockkmmjinhpaa", sum := "f90d06311f2e8ad04f77cfcf96453bccf634ebe9379c953e2991bd790c0df6c6", func := "lemmata/lemmatalaw13.LlNone", spec := "llNone", unfollowed := true, recurses := true, apart := false, narrowed := true }
def LlNoneUptoSaid : Prop := llNoneUptoRow.holds Try.pinned (OpenSpec.upto llNoneSpec)

end Rows
end Go.Proofs.Ytaockkmmjinhpaa
