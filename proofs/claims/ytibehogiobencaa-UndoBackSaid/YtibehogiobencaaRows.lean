/-
  No cell of these rows narrows 'for every input' (looked for: loops, veiled, ifaces, maps, wideKeys, modest, calm, conditions, laid).
  DERIVED. THE GIVEN ROWS OF THIS SEAT. 11 by the template 'for every input the law returns true; each argument reads behind the call as it read before'; 0 by the template 'total and deterministic' (their statements: YtibehogiobencaaTotals.lean).
  GIVEN WITH THE SEED: the statements are not yours to turn. If you find one false, say at which input.
  Laid BY PROGRAM, IN A SANDBOX (cutbox-rows.mjs): the forced cells as the released guide's own fill.sh prints them over the translation 9183fd1170975f46… (all of the seat's roots in one cut). By AI agents, Wed Nov 11 2026. No macro, syntax, notation, axiom, sorry.
-/
import Derived.Test.YtibehogiobencaaChecked
import GoSem.Claim
import GoSem.ClaimJoined
import GoSem.ClaimMapViews
import Derived.JoinedTies
import Derived.KernelRfl
namespace Go.Proofs.Ytibehogiobencaa
/- THE CELL 'sum', in the pinned program and in every row, IS THE sha256 OF THE DUMP (.gsa) THAT YtibehogiobencaaProg.lean LOADS. Nothing in Lean hashes anything: it is a label: what it is worth is what the hold of that sum in a sandbox is worth. -/
noncomputable def Try.pinned : Pinned := { name := "ytibehogiobencaa", sum := "9183fd1170975f4651475e129b385ee95be9cc3490d1fbe339f8bbd0f9d89b08", checked := Try.checked }
namespace Rows
def none {H : Type} : Left H := { results := [], args := [] }

/-- 'lemmatalaw10.UndoAll': WHATEVER THE INPUT: true; the input reads as it did. -/
def undoAllSpec : ChangeSpec := { name := "undoAll", fn := fun _ => fun
  | [d] => { results := [.lit (.bool true)], args := [d] }
  | _ => none }
def undoAllRow : OpenClaim := { program := "ytibehogiobencaa", sum := "9183fd1170975f4651475e129b385ee95be9cc3490d1fbe339f8bbd0f9d89b08", func := "lemmata/lemmatalaw10.UndoAll", spec := "undoAll", apart := false }
def UndoAllSaid : Prop := undoAllRow.holds Try.pinned (OpenSpec.ofChange undoAllSpec)

/-- ITS FALSE NEIGHBOUR: 'it returns false'. Refute it at one input. -/
def undoAllWrong : ChangeSpec := { name := "undoAll", fn := fun _ => fun
  | [d] => { results := [.lit (.bool false)], args := [d] }
  | _ => none }
def UndoAllWrongFalsely : Prop := undoAllRow.holds Try.pinned (OpenSpec.ofChange undoAllWrong)

/-- 'lemmatalaw10.UndoForms': WHATEVER THE INPUT: true; the input reads as it did. -/
def undoFormsSpec : ChangeSpec := { name := "undoForms", fn := fun _ => fun
  | [] => { results := [.lit (.bool true)], args := [] }
  | _ => none }
def undoFormsRow : OpenClaim := { program := "ytibehogiobencaa", sum := "9183fd1170975f4651475e129b385ee95be9cc3490d1fbe339f8bbd0f9d89b08", func := "lemmata/lemmatalaw10.UndoForms", spec := "undoForms", apart := false }
def UndoFormsSaid : Prop := undoFormsRow.holds Try.pinned (OpenSpec.ofChange undoFormsSpec)

/-- ITS FALSE NEIGHBOUR: 'it returns false'. Refute it at one input. -/
def undoFormsWrong : ChangeSpec := { name := "undoForms", fn := fun _ => fun
  | [] => { results := [.lit (.bool false)], args := [] }
  | _ => none }
def UndoFormsWrongFalsely : Prop := undoFormsRow.holds Try.pinned (OpenSpec.ofChange undoFormsWrong)

/-- 'lemmatalaw10.UndoBack': WHATEVER THE INPUT: true; the input reads as it did. -/
def undoBackSpec : ChangeSpec := { name := "undoBack", fn := fun _ => fun
  | [d1, d2, d3] => { results := [.lit (.bool true)], args := [d1, d2, d3] }
  | _ => none }
def undoBackRow : OpenClaim := { program := "ytibehogiobencaa", sum := "9183fd1170975f4651475e129b385ee95be9cc3490d1fbe339f8bbd0f9d89b08", func := "lemmata/lemmatalaw10.UndoBack", spec := "undoBack", apart := false }
def UndoBackSaid : Prop := undoBackRow.holds Try.pinned (OpenSpec.ofChange undoBackSpec)

/-- ITS FALSE NEIGHBOUR: 'it returns false'. Refute it at one input. -/
def undoBackWrong : ChangeSpec := { name := "undoBack", fn := fun _ => fun
  | [d1, d2, d3] => { results := [.lit (.bool false)], args := [d1, d2, d3] }
  | _ => none }
def UndoBackWrongFalsely : Prop := undoBackRow.holds Try.pinned (OpenSpec.ofChange undoBackWrong)

/-- 'lemmatalaw8.PieceAll': WHATEVER THE INPUT: true; the input reads as it did. -/
def pieceAllSpec : ChangeSpec := { name := "pieceAll", fn := fun _ => fun
  | [d1, d2] => { results := [.lit (.bool true)], args := [d1, d2] }
  | _ => none }
def pieceAllRow : OpenClaim := { program := "ytibehogiobencaa", sum := "9183fd1170975f4651475e129b385ee95be9cc3490d1fbe339f8bbd0f9d89b08", func := "lemmata/lemmatalaw8.PieceAll", spec := "pieceAll", inPlace := ["internal/abi.NoEscape"], unfollowed := true, recurses := true, apart := false }
def PieceAllSaid : Prop := pieceAllRow.holds Try.pinned (OpenSpec.ofChange pieceAllSpec)

/-- ITS FALSE NEIGHBOUR: 'it returns false'. Refute it at one input. -/
def pieceAllWrong : ChangeSpec := { name := "pieceAll", fn := fun _ => fun
  | [d1, d2] => { results := [.lit (.bool false)], args := [d1, d2] }
  | _ => none }
def PieceAllWrongFalsely : Prop := pieceAllRow.holds Try.pinned (OpenSpec.ofChange pieceAllWrong)

/-- 'lemmatalaw8.PieceMay': WHATEVER THE INPUT: true; the input reads as it did. -/
def pieceMaySpec : ChangeSpec := { name := "pieceMay", fn := fun _ => fun
  | [d1, d2, d3] => { results := [.lit (.bool true)], args := [d1, d2, d3] }
  | _ => none }
def pieceMayRow : OpenClaim := { program := "ytibehogiobencaa", sum := "9183fd1170975f4651475e129b385ee95be9cc3490d1fbe339f8bbd0f9d89b08", func := "lemmata/lemmatalaw8.PieceMay", spec := "pieceMay", inPlace := ["internal/abi.NoEscape"], unfollowed := true, recurses := true, apart := false }
def PieceMaySaid : Prop := pieceMayRow.holds Try.pinned (OpenSpec.ofChange pieceMaySpec)

/-- ITS FALSE NEIGHBOUR: 'it returns false'. Refute it at one input. -/
def pieceMayWrong : ChangeSpec := { name := "pieceMay", fn := fun _ => fun
  | [d1, d2, d3] => { results := [.lit (.bool false)], args := [d1, d2, d3] }
  | _ => none }
def PieceMayWrongFalsely : Prop := pieceMayRow.holds Try.pinned (OpenSpec.ofChange pieceMayWrong)

/-- 'lemmatalaw8.PieceForms': WHATEVER THE INPUT: true; the input reads as it did. -/
def pieceFormsSpec : ChangeSpec := { name := "pieceForms", fn := fun _ => fun
  | [] => { results := [.lit (.bool true)], args := [] }
  | _ => none }
def pieceFormsRow : OpenClaim := { program := "ytibehogiobencaa", sum := "9183fd1170975f4651475e129b385ee95be9cc3490d1fbe339f8bbd0f9d89b08", func := "lemmata/lemmatalaw8.PieceForms", spec := "pieceForms", inPlace := ["internal/abi.NoEscape"], unfollowed := true, recurses := true, apart := false }
def PieceFormsSaid : Prop := pieceFormsRow.holds Try.pinned (OpenSpec.ofChange pieceFormsSpec)

/-- ITS FALSE NEIGHBOUR: 'it returns false'. Refute it at one input. -/
def pieceFormsWrong : ChangeSpec := { name := "pieceForms", fn := fun _ => fun
  | [] => { results := [.lit (.bool false)], args := [] }
  | _ => none }
def PieceFormsWrongFalsely : Prop := pieceFormsRow.holds Try.pinned (OpenSpec.ofChange pieceFormsWrong)

/-- 'lemmatalaw8.PieceBack': WHATEVER THE INPUT: true; the input reads as it did. -/
def pieceBackSpec : ChangeSpec := { name := "pieceBack", fn := fun _ => fun
  | [d1, d2] => { results := [.lit (.bool true)], args := [d1, d2] }
  | _ => none }
def pieceBackRow : OpenClaim := { program := "ytibehogiobencaa", sum := "9183fd1170975f4651475e129b385ee95be9cc3490d1fbe339f8bbd0f9d89b08", func := "lemmata/lemmatalaw8.PieceBack", spec := "pieceBack", inPlace := ["internal/abi.NoEscape"], unfollowed := true, recurses := true, apart := false }
def PieceBackSaid : Prop := pieceBackRow.holds Try.pinned (OpenSpec.ofChange pieceBackSpec)

/-- ITS FALSE NEIGHBOUR: 'it returns false'. Refute it at one input. -/
def pieceBackWrong : ChangeSpec := { name := "pieceBack", fn := fun _ => fun
  | [d1, d2] => { results := [.lit (.bool false)], args := [d1, d2] }
  | _ => none }
def PieceBackWrongFalsely : Prop := pieceBackRow.holds Try.pinned (OpenSpec.ofChange pieceBackWrong)

/-- 'lemmatalaw3.RexAll': WHATEVER THE INPUT: true; the input reads as it did. -/
def rexAllSpec : ChangeSpec := { name := "rexAll", fn := fun _ => fun
  | [d1, d2, d3, d4] => { results := [.lit (.bool true)], args := [d1, d2, d3, d4] }
  | _ => none }
def rexAllRow : OpenClaim := { program := "ytibehogiobencaa", sum := "9183fd1170975f4651475e129b385ee95be9cc3490d1fbe339f8bbd0f9d89b08", func := "lemmata/lemmatalaw3.RexAll", spec := "rexAll", inPlace := ["internal/bytealg.IndexByteString"], unfollowed := true, recurses := true, apart := false }
def RexAllSaid : Prop := rexAllRow.holds Try.pinned (OpenSpec.ofChange rexAllSpec)

/-- ITS FALSE NEIGHBOUR: 'it returns false'. Refute it at one input. -/
def rexAllWrong : ChangeSpec := { name := "rexAll", fn := fun _ => fun
  | [d1, d2, d3, d4] => { results := [.lit (.bool false)], args := [d1, d2, d3, d4] }
  | _ => none }
def RexAllWrongFalsely : Prop := rexAllRow.holds Try.pinned (OpenSpec.ofChange rexAllWrong)

/-- 'lemmatalaw3.RexCount': WHATEVER THE INPUT: true; the input reads as it did. -/
def rexCountSpec : ChangeSpec := { name := "rexCount", fn := fun _ => fun
  | [d1, d2] => { results := [.lit (.bool true)], args := [d1, d2] }
  | _ => none }
def rexCountRow : OpenClaim := { program := "ytibehogiobencaa", sum := "9183fd1170975f4651475e129b385ee95be9cc3490d1fbe339f8bbd0f9d89b08", func := "lemmata/lemmatalaw3.RexCount", spec := "rexCount", inPlace := ["internal/bytealg.IndexByteString"], unfollowed := true, recurses := true, apart := false }
def RexCountSaid : Prop := rexCountRow.holds Try.pinned (OpenSpec.ofChange rexCountSpec)

/-- ITS FALSE NEIGHBOUR: 'it returns false'. Refute it at one input. -/
def rexCountWrong : ChangeSpec := { name := "rexCount", fn := fun _ => fun
  | [d1, d2] => { results := [.lit (.bool false)], args := [d1, d2] }
  | _ => none }
def RexCountWrongFalsely : Prop := rexCountRow.holds Try.pinned (OpenSpec.ofChange rexCountWrong)

/-- 'lemmatalaw3.RexForms': WHATEVER THE INPUT: true; the input reads as it did. -/
def rexFormsSpec : ChangeSpec := { name := "rexForms", fn := fun _ => fun
  | [] => { results := [.lit (.bool true)], args := [] }
  | _ => none }
def rexFormsRow : OpenClaim := { program := "ytibehogiobencaa", sum := "9183fd1170975f4651475e129b385ee95be9cc3490d1fbe339f8bbd0f9d89b08", func := "lemmata/lemmatalaw3.RexForms", spec := "rexForms", inPlace := ["internal/bytealg.IndexByteString"], unfollowed := true, recurses := true, apart := false }
def RexFormsSaid : Prop := rexFormsRow.holds Try.pinned (OpenSpec.ofChange rexFormsSpec)

/-- ITS FALSE NEIGHBOUR: 'it returns false'. Refute it at one input. -/
def rexFormsWrong : ChangeSpec := { name := "rexForms", fn := fun _ => fun
  | [] => { results := [.lit (.bool false)], args := [] }
  | _ => none }
def RexFormsWrongFalsely : Prop := rexFormsRow.holds Try.pinned (OpenSpec.ofChange rexFormsWrong)

/-- 'lemmatalaw3.RexRound': WHATEVER THE INPUT: true; the input reads as it did. -/
def rexRoundSpec : ChangeSpec := { name := "rexRound", fn := fun _ => fun
  | [d1, d2] => { results := [.lit (.bool true)], args := [d1, d2] }
  | _ => none }
def rexRoundRow : OpenClaim := { program := "ytibehogiobencaa", sum := "9183fd1170975f4651475e129b385ee95be9cc3490d1fbe339f8bbd0f9d89b08", func := "lemmata/lemmatalaw3.RexRound", spec := "rexRound", inPlace := ["internal/bytealg.IndexByteString"], unfollowed := true, recurses := true, apart := false }
def RexRoundSaid : Prop := rexRoundRow.holds Try.pinned (OpenSpec.ofChange rexRoundSpec)

/-- ITS FALSE NEIGHBOUR: 'it returns false'. Refute it at one input. -/
def rexRoundWrong : ChangeSpec := { name := "rexRound", fn := fun _ => fun
  | [d1, d2] => { results := [.lit (.bool false)], args := [d1, d2] }
  | _ => none }
def RexRoundWrongFalsely : Prop := rexRoundRow.holds Try.pinned (OpenSpec.ofChange rexRoundWrong)

/- THE SECOND FORM. 'bulk': how many values and letters a reading holds, each counted each time it is reached (what is shared counts as often as it is met; a slice's spare places count too). A statement '..UptoSaid' is the law's where the arguments, and the package variables that the reading takes, are together of bulk at most 1048576: NARROWER than '..Said'. Prove '..Said' where nothing that the law and all that it calls make is longer than what came in: it says more and counts as full. Else prove '..UptoSaid'. A law counts once. -/
mutual
def uptoBulk {H : Type} : DataW H → Nat
  | .lit (.string bytes) => bytes.length + 1
  | .lit _ => 1
  | .nil => 1
  | .ptr d => uptoBulk d + 1
  | .slice elems spare => uptoBulkAll elems + uptoBulkAll spare + 1
  | .agg parts => uptoBulkAll parts + 1
  | .iface _ d => uptoBulk d + 1
  | .map entries => uptoBulkEntries entries + 1
  | .held _ => 1
def uptoBulkAll {H : Type} : List (DataW H) → Nat
  | [] => 0
  | d :: r => uptoBulk d + uptoBulkAll r
def uptoBulkEntries {H : Type} : List (Lit × DataW H) → Nat
  | [] => 0
  | x :: r => uptoBulkEntry x + uptoBulkEntries r
def uptoBulkEntry {H : Type} : Lit × DataW H → Nat
  | (.string bytes, d) => bytes.length + uptoBulk d + 1
  | (_, d) => uptoBulk d + 1
 end
def uptoSmall : (H : Type) → List (DataW H) → Bool := fun _ ds => decide (uptoBulkAll ds ≤ 1048576)
def OpenSpec.upto (s : _root_.Go.ChangeSpec) : _root_.Go.OpenSpec := { _root_.Go.OpenSpec.ofChange s with cond := some uptoSmall }

/-- 'lemmatalaw10.UndoAll', WHERE WHAT IT READS IS OF BULK AT MOST 1048576: true; the input reads as it did. -/
def undoAllUptoRow : OpenClaim := { program := "ytibehogiobencaa", sum := "9183fd1170975f4651475e129b385ee95be9cc3490d1fbe339f8bbd0f9d89b08", func := "lemmata/lemmatalaw10.UndoAll", spec := "undoAll", apart := false, narrowed := true }
def UndoAllUptoSaid : Prop := undoAllUptoRow.holds Try.pinned (OpenSpec.upto undoAllSpec)

/-- 'lemmatalaw10.UndoForms', WHERE WHAT IT READS IS OF BULK AT MOST 1048576: true; the input reads as it did. -/
def undoFormsUptoRow : OpenClaim := { program := "ytibehogiobencaa", sum := "9183fd1170975f4651475e129b385ee95be9cc3490d1fbe339f8bbd0f9d89b08", func := "lemmata/lemmatalaw10.UndoForms", spec := "undoForms", apart := false, narrowed := true }
def UndoFormsUptoSaid : Prop := undoFormsUptoRow.holds Try.pinned (OpenSpec.upto undoFormsSpec)

/-- 'lemmatalaw10.UndoBack', WHERE WHAT IT READS IS OF BULK AT MOST 1048576: true; the input reads as it did. -/
def undoBackUptoRow : OpenClaim := { program := "ytibehogiobencaa", sum := "9183fd1170975f4651475e129b385ee95be9cc3490d1fbe339f8bbd0f9d89b08", func := "lemmata/lemmatalaw10.UndoBack", spec := "undoBack", apart := false, narrowed := true }
def UndoBackUptoSaid : Prop := undoBackUptoRow.holds Try.pinned (OpenSpec.upto undoBackSpec)

/-- 'lemmatalaw8.PieceAll', WHERE WHAT IT READS IS OF BULK AT MOST 1048576: true; the input reads as it did. -/
def pieceAllUptoRow : OpenClaim := { program := "ytibehogiobencaa", sum := "9183fd1170975f4651475e129b385ee95be9cc3490d1fbe339f8bbd0f9d89b08", func := "lemmata/lemmatalaw8.PieceAll", spec := "pieceAll", inPlace := ["internal/abi.NoEscape"], unfollowed := true, recurses := true, apart := false, narrowed := true }
def PieceAllUptoSaid : Prop := pieceAllUptoRow.holds Try.pinned (OpenSpec.upto pieceAllSpec)

/-- 'lemmatalaw8.PieceMay', WHERE WHAT IT READS IS OF BULK AT MOST 1048576: true; the input reads as it did. -/
def pieceMayUptoRow : OpenClaim := { program := "ytibehogiobencaa", sum := "9183fd1170975f4651475e129b385ee95be9cc3490d1fbe339f8bbd0f9d89b08", func := "lemmata/lemmatalaw8.PieceMay", spec := "pieceMay", inPlace := ["internal/abi.NoEscape"], unfollowed := true, recurses := true, apart := false, narrowed := true }
def PieceMayUptoSaid : Prop := pieceMayUptoRow.holds Try.pinned (OpenSpec.upto pieceMaySpec)

/-- 'lemmatalaw8.PieceForms', WHERE WHAT IT READS IS OF BULK AT MOST 1048576: true; the input reads as it did. -/
def pieceFormsUptoRow : OpenClaim := { program := "ytibehogiobencaa", sum := "9183fd1170975f4651475e129b385ee95be9cc3490d1fbe339f8bbd0f9d89b08", func := "lemmata/lemmatalaw8.PieceForms", spec := "pieceForms", inPlace := ["internal/abi.NoEscape"], unfollowed := true, recurses := true, apart := false, narrowed := true }
def PieceFormsUptoSaid : Prop := pieceFormsUptoRow.holds Try.pinned (OpenSpec.upto pieceFormsSpec)

/-- 'lemmatalaw8.PieceBack', WHERE WHAT IT READS IS OF BULK AT MOST 1048576: true; the input reads as it did. -/
def pieceBackUptoRow : OpenClaim := { program := "ytibehogiobencaa", sum := "9183fd1170975f4651475e129b385ee95be9cc3490d1fbe339f8bbd0f9d89b08", func := "lemmata/lemmatalaw8.PieceBack", spec := "pieceBack", inPlace := ["internal/abi.NoEscape"], unfollowed := true, recurses := true, apart := false, narrowed := true }
def PieceBackUptoSaid : Prop := pieceBackUptoRow.holds Try.pinned (OpenSpec.upto pieceBackSpec)

/-- 'lemmatalaw3.RexAll', WHERE WHAT IT READS IS OF BULK AT MOST 1048576: true; the input reads as it did. -/
def rexAllUptoRow : OpenClaim := { program := "ytibehogiobencaa", sum := "9183fd1170975f4651475e129b385ee95be9cc3490d1fbe339f8bbd0f9d89b08", func := "lemmata/lemmatalaw3.RexAll", spec := "rexAll", inPlace := ["internal/bytealg.IndexByteString"], unfollowed := true, recurses := true, apart := false, narrowed := true }
def RexAllUptoSaid : Prop := rexAllUptoRow.holds Try.pinned (OpenSpec.upto rexAllSpec)

/-- 'lemmatalaw3.RexCount', WHERE WHAT IT READS IS OF BULK AT MOST 1048576: true; the input reads as it did. -/
def rexCountUptoRow : OpenClaim := { program := "ytibehogiobencaa", sum := "9183fd1170975f4651475e129b385ee95be9cc3490d1fbe339f8bbd0f9d89b08", func := "lemmata/lemmatalaw3.RexCount", spec := "rexCount", inPlace := ["internal/bytealg.IndexByteString"], unfollowed := true, recurses := true, apart := false, narrowed := true }
def RexCountUptoSaid : Prop := rexCountUptoRow.holds Try.pinned (OpenSpec.upto rexCountSpec)

/-- 'lemmatalaw3.RexForms', WHERE WHAT IT READS IS OF BULK AT MOST 1048576: true; the input reads as it did. -/
def rexFormsUptoRow : OpenClaim := { program := "ytibehogiobencaa", sum := "9183fd1170975f4651475e129b385ee95be9cc3490d1fbe339f8bbd0f9d89b08", func := "lemmata/lemmatalaw3.RexForms", spec := "rexForms", inPlace := ["internal/bytealg.IndexByteString"], unfollowed := true, recurses := true, apart := false, narrowed := true }
def RexFormsUptoSaid : Prop := rexFormsUptoRow.holds Try.pinned (OpenSpec.upto rexFormsSpec)

/-- 'lemmatalaw3.RexRound', WHERE WHAT IT READS IS OF BULK AT MOST 1048576: true; the input reads as it did. -/
def rexRoundUptoRow : OpenClaim := { program := "ytibehogiobencaa", sum := "9183fd1170975f4651475e129b385ee95be9cc3490d1fbe339f8bbd0f9d89b08", func := "lemmata/lemmatalaw3.RexRound", spec := "rexRound", inPlace := ["internal/bytealg.IndexByteString"], unfollowed := true, recurses := true, apart := false, narrowed := true }
def RexRoundUptoSaid : Prop := rexRoundUptoRow.holds Try.pinned (OpenSpec.upto rexRoundSpec)

end Rows
end Go.Proofs.Ytibehogiobencaa
