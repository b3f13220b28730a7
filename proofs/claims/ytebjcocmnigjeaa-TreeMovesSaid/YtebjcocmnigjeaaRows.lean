/-
  NARROWER THAN 'FOR EVERY INPUT', by the rows' own cells (each row's printed sentence says how): TreeMoves: loops · SubtypeChain: loops · SubtypeAny: loops · SubtypeTells: loops · PrinterTells: loops.
  DERIVED. THE GIVEN ROWS OF THIS SEAT. 7 by the template 'for every input the law returns true; each argument reads behind the call as it read before'; 0 by the template 'total and deterministic' (their statements: YtebjcocmnigjeaaTotals.lean).
  GIVEN WITH THE SEED: the statements are not yours to turn. If you find one false, say at which input.
  Laid BY PROGRAM, IN A SANDBOX (cutbox-rows.mjs): the forced cells as the released guide's own fill.sh prints them over the translation 16ab823025447354… (all of the seat's roots in one cut). By AI agents, Wed Nov 11 2026. No macro, syntax, notation, axiom, sorry.
-/
import Derived.Test.YtebjcocmnigjeaaChecked
import GoSem.Claim
import GoSem.ClaimJoined
import GoSem.ClaimMapViews
import Derived.JoinedTies
import Derived.KernelRfl
namespace Go.Proofs.Ytebjcocmnigjeaa
/- THE CELL 'sum', in the pinned program and in every row, IS THE sha256 OF THE DUMP (.gsa) THAT YtebjcocmnigjeaaProg.lean LOADS. Nothing in Lean hashes anything: it is a label: what it is worth is what the hold of that sum in a sandbox is worth. -/
noncomputable def Try.pinned : Pinned := { name := "ytebjcocmnigjeaa", sum := "16ab8230254473544f73acaa80d1a5f0f648ad38169ff6b28bd17ca25a65b082", checked := Try.checked }
namespace Rows
def none {H : Type} : Left H := { results := [], args := [] }

/-- 'variorumlaw25.TreeMoves': WHATEVER THE INPUT: true; the input reads as it did. -/
def treeMovesSpec : ChangeSpec := { name := "treeMoves", fn := fun _ => fun
  | [d1, d2] => { results := [.lit (.bool true)], args := [d1, d2] }
  | _ => none }
def treeMovesRow : OpenClaim := { program := "ytebjcocmnigjeaa", sum := "16ab8230254473544f73acaa80d1a5f0f648ad38169ff6b28bd17ca25a65b082", func := "variorum/variorumlaw25.TreeMoves", spec := "treeMoves", unfollowed := true, recurses := true, loops := true, apart := false }
def TreeMovesSaid : Prop := treeMovesRow.holds Try.pinned (OpenSpec.ofChange treeMovesSpec)

/-- ITS FALSE NEIGHBOUR: 'it returns false'. Refute it at one input. -/
def treeMovesWrong : ChangeSpec := { name := "treeMoves", fn := fun _ => fun
  | [d1, d2] => { results := [.lit (.bool false)], args := [d1, d2] }
  | _ => none }
def TreeMovesWrongFalsely : Prop := treeMovesRow.holds Try.pinned (OpenSpec.ofChange treeMovesWrong)

/-- 'variorumlaw30.SubtypeChain': WHATEVER THE INPUT: true; the input reads as it did. -/
def subtypeChainSpec : ChangeSpec := { name := "subtypeChain", fn := fun _ => fun
  | [d1, d2, d3] => { results := [.lit (.bool true)], args := [d1, d2, d3] }
  | _ => none }
def subtypeChainRow : OpenClaim := { program := "ytebjcocmnigjeaa", sum := "16ab8230254473544f73acaa80d1a5f0f648ad38169ff6b28bd17ca25a65b082", func := "variorum/variorumlaw30.SubtypeChain", spec := "subtypeChain", inPlace := ["internal/abi.NoEscape", "internal/bytealg.MakeNoZero"], unfollowed := true, recurses := true, loops := true, apart := false }
def SubtypeChainSaid : Prop := subtypeChainRow.holds Try.pinned (OpenSpec.ofChange subtypeChainSpec)

/-- ITS FALSE NEIGHBOUR: 'it returns false'. Refute it at one input. -/
def subtypeChainWrong : ChangeSpec := { name := "subtypeChain", fn := fun _ => fun
  | [d1, d2, d3] => { results := [.lit (.bool false)], args := [d1, d2, d3] }
  | _ => none }
def SubtypeChainWrongFalsely : Prop := subtypeChainRow.holds Try.pinned (OpenSpec.ofChange subtypeChainWrong)

/-- 'variorumlaw30.SubtypeAny': WHATEVER THE INPUT: true; the input reads as it did. -/
def subtypeAnySpec : ChangeSpec := { name := "subtypeAny", fn := fun _ => fun
  | [d1, d2, d3] => { results := [.lit (.bool true)], args := [d1, d2, d3] }
  | _ => none }
def subtypeAnyRow : OpenClaim := { program := "ytebjcocmnigjeaa", sum := "16ab8230254473544f73acaa80d1a5f0f648ad38169ff6b28bd17ca25a65b082", func := "variorum/variorumlaw30.SubtypeAny", spec := "subtypeAny", inPlace := ["internal/abi.NoEscape", "internal/bytealg.MakeNoZero"], unfollowed := true, recurses := true, loops := true, apart := false }
def SubtypeAnySaid : Prop := subtypeAnyRow.holds Try.pinned (OpenSpec.ofChange subtypeAnySpec)

/-- ITS FALSE NEIGHBOUR: 'it returns false'. Refute it at one input. -/
def subtypeAnyWrong : ChangeSpec := { name := "subtypeAny", fn := fun _ => fun
  | [d1, d2, d3] => { results := [.lit (.bool false)], args := [d1, d2, d3] }
  | _ => none }
def SubtypeAnyWrongFalsely : Prop := subtypeAnyRow.holds Try.pinned (OpenSpec.ofChange subtypeAnyWrong)

/-- 'variorumlaw30.SubtypeTells': WHATEVER THE INPUT: true; the input reads as it did. -/
def subtypeTellsSpec : ChangeSpec := { name := "subtypeTells", fn := fun _ => fun
  | [d1, d2] => { results := [.lit (.bool true)], args := [d1, d2] }
  | _ => none }
def subtypeTellsRow : OpenClaim := { program := "ytebjcocmnigjeaa", sum := "16ab8230254473544f73acaa80d1a5f0f648ad38169ff6b28bd17ca25a65b082", func := "variorum/variorumlaw30.SubtypeTells", spec := "subtypeTells", inPlace := ["internal/abi.NoEscape", "internal/bytealg.MakeNoZero"], unfollowed := true, recurses := true, loops := true, apart := false }
def SubtypeTellsSaid : Prop := subtypeTellsRow.holds Try.pinned (OpenSpec.ofChange subtypeTellsSpec)

/-- ITS FALSE NEIGHBOUR: 'it returns false'. Refute it at one input. -/
def subtypeTellsWrong : ChangeSpec := { name := "subtypeTells", fn := fun _ => fun
  | [d1, d2] => { results := [.lit (.bool false)], args := [d1, d2] }
  | _ => none }
def SubtypeTellsWrongFalsely : Prop := subtypeTellsRow.holds Try.pinned (OpenSpec.ofChange subtypeTellsWrong)

/-- 'variorumlaw27.PrinterTells': WHATEVER THE INPUT: true; the input reads as it did. -/
def printerTellsSpec : ChangeSpec := { name := "printerTells", fn := fun _ => fun
  | [d1, d2] => { results := [.lit (.bool true)], args := [d1, d2] }
  | _ => none }
def printerTellsRow : OpenClaim := { program := "ytebjcocmnigjeaa", sum := "16ab8230254473544f73acaa80d1a5f0f648ad38169ff6b28bd17ca25a65b082", func := "variorum/variorumlaw27.PrinterTells", spec := "printerTells", inPlace := ["internal/abi.NoEscape"], unfollowed := true, recurses := true, loops := true, apart := false }
def PrinterTellsSaid : Prop := printerTellsRow.holds Try.pinned (OpenSpec.ofChange printerTellsSpec)

/-- ITS FALSE NEIGHBOUR: 'it returns false'. Refute it at one input. -/
def printerTellsWrong : ChangeSpec := { name := "printerTells", fn := fun _ => fun
  | [d1, d2] => { results := [.lit (.bool false)], args := [d1, d2] }
  | _ => none }
def PrinterTellsWrongFalsely : Prop := printerTellsRow.holds Try.pinned (OpenSpec.ofChange printerTellsWrong)

/-- 'variorumlaw26.ParserApart': WHATEVER THE INPUT: true; the input reads as it did. -/
def parserApartSpec : ChangeSpec := { name := "parserApart", fn := fun _ => fun
  | [d] => { results := [.lit (.bool true)], args := [d] }
  | _ => none }
def parserApartRow : OpenClaim := { program := "ytebjcocmnigjeaa", sum := "16ab8230254473544f73acaa80d1a5f0f648ad38169ff6b28bd17ca25a65b082", func := "variorum/variorumlaw26.ParserApart", spec := "parserApart", inPlace := ["internal/bytealg.IndexByteString"], unfollowed := true, recurses := true, apart := false }
def ParserApartSaid : Prop := parserApartRow.holds Try.pinned (OpenSpec.ofChange parserApartSpec)

/-- ITS FALSE NEIGHBOUR: 'it returns false'. Refute it at one input. -/
def parserApartWrong : ChangeSpec := { name := "parserApart", fn := fun _ => fun
  | [d] => { results := [.lit (.bool false)], args := [d] }
  | _ => none }
def ParserApartWrongFalsely : Prop := parserApartRow.holds Try.pinned (OpenSpec.ofChange parserApartWrong)

/-- 'variorumlaw26.ParserRight': WHATEVER THE INPUT: true; the input reads as it did. -/
def parserRightSpec : ChangeSpec := { name := "parserRight", fn := fun _ => fun
  | [d] => { results := [.lit (.bool true)], args := [d] }
  | _ => none }
def parserRightRow : OpenClaim := { program := "ytebjcocmnigjeaa", sum := "16ab8230254473544f73acaa80d1a5f0f648ad38169ff6b28bd17ca25a65b082", func := "variorum/variorumlaw26.ParserRight", spec := "parserRight", unfollowed := true, recurses := true, apart := false }
def ParserRightSaid : Prop := parserRightRow.holds Try.pinned (OpenSpec.ofChange parserRightSpec)

/-- ITS FALSE NEIGHBOUR: 'it returns false'. Refute it at one input. -/
def parserRightWrong : ChangeSpec := { name := "parserRight", fn := fun _ => fun
  | [d] => { results := [.lit (.bool false)], args := [d] }
  | _ => none }
def ParserRightWrongFalsely : Prop := parserRightRow.holds Try.pinned (OpenSpec.ofChange parserRightWrong)

/- THE SECOND FORM. 'bulk': how many values and letters a reading holds, each counted each time it is reached (what is shared counts as often as it is met; a slice's spare places count too). A statement '..UptoSaid' is the law's where the arguments, and the package variables that the reading takes, are together of bulk at most 1048576: NARROWER than '..Said'. Prove '..Said' where nothing that the law and all that it calls make is longer than what came in: it says more and counts as full. Else prove '..UptoSaid'. A law counts once. -/
mutual
def uptoBulk {H : Type} : DataW H → Nat
  | .lit (.string bytes) => bytes.length + 1
  | .lit _ => 1
  | .nil => 1
  | .ptr d => uptoBulk d + 1
  | .slice elems spare => uptoBulkAll elems + uptoBulkAll spare + 1
  | .agg parts => uptoBulkAll parts + 1
  | .iface _ d => uptoBulk d + 1
  | .map entries => uptoBulkEntries entries + 1
  | .held _ => 1
def uptoBulkAll {H : Type} : List (DataW H) → Nat
  | [] => 0
  | d :: r => uptoBulk d + uptoBulkAll r
def uptoBulkEntries {H : Type} : List (Lit × DataW H) → Nat
  | [] => 0
  | x :: r => uptoBulkEntry x + uptoBulkEntries r
def uptoBulkEntry {H : Type} : Lit × DataW H → Nat
  | (.string bytes, d) => bytes.length + uptoBulk d + 1
  | (_, d) => uptoBulk d + 1
 end
def uptoSmall : (H : Type) → List (DataW H) → Bool := fun _ ds => decide (uptoBulkAll ds ≤ 1048576)
def OpenSpec.upto (s : _root_.Go.ChangeSpec) : _root_.Go.OpenSpec := { _root_.Go.OpenSpec.ofChange s with cond := some uptoSmall }

/-- 'variorumlaw25.TreeMoves', WHERE WHAT IT READS IS OF BULK AT MOST 1048576: true; the input reads as it did. -/
def treeMovesUptoRow : OpenClaim := { program := "ytebjcocmnigjeaa", sum := "16ab8230254473544f73acaa80d1a5f0f648ad38169ff6b28bd17ca25a65b082", func := "variorum/variorumlaw25.TreeMoves", spec := "treeMoves", unfollowed := true, recurses := true, loops := true, apart := false, narrowed := true }
def TreeMovesUptoSaid : Prop := treeMovesUptoRow.holds Try.pinned (OpenSpec.upto treeMovesSpec)

/-- 'variorumlaw30.SubtypeChain', WHERE WHAT IT READS IS OF BULK AT MOST 1048576: true; the input reads as it did. -/
def subtypeChainUptoRow : OpenClaim := { program := "ytebjcocmnigjeaa", sum := "16ab8230254473544f73acaa80d1a5f0f648ad38169ff6b28bd17ca25a65b082", func := "variorum/variorumlaw30.SubtypeChain", spec := "subtypeChain", inPlace := ["internal/abi.NoEscape", "internal/bytealg.MakeNoZero"], unfollowed := true, recurses := true, loops := true, apart := false, narrowed := true }
def SubtypeChainUptoSaid : Prop := subtypeChainUptoRow.holds Try.pinned (OpenSpec.upto subtypeChainSpec)

/-- 'variorumlaw30.SubtypeAny', WHERE WHAT IT READS IS OF BULK AT MOST 1048576: true; the input reads as it did. -/
def subtypeAnyUptoRow : OpenClaim := { program := "ytebjcocmnigjeaa", sum := "16ab8230254473544f73acaa80d1a5f0f648ad38169ff6b28bd17ca25a65b082", func := "variorum/variorumlaw30.SubtypeAny", spec := "subtypeAny", inPlace := ["internal/abi.NoEscape", "internal/bytealg.MakeNoZero"], unfollowed := true, recurses := true, loops := true, apart := false, narrowed := true }
def SubtypeAnyUptoSaid : Prop := subtypeAnyUptoRow.holds Try.pinned (OpenSpec.upto subtypeAnySpec)

/-- 'variorumlaw30.SubtypeTells', WHERE WHAT IT READS IS OF BULK AT MOST 1048576: true; the input reads as it did. -/
def subtypeTellsUptoRow : OpenClaim := { program := "ytebjcocmnigjeaa", sum := "16ab8230254473544f73acaa80d1a5f0f648ad38169ff6b28bd17ca25a65b082", func := "variorum/variorumlaw30.SubtypeTells", spec := "subtypeTells", inPlace := ["internal/abi.NoEscape", "internal/bytealg.MakeNoZero"], unfollowed := true, recurses := true, loops := true, apart := false, narrowed := true }
def SubtypeTellsUptoSaid : Prop := subtypeTellsUptoRow.holds Try.pinned (OpenSpec.upto subtypeTellsSpec)

/-- 'variorumlaw27.PrinterTells', WHERE WHAT IT READS IS OF BULK AT MOST 1048576: true; the input reads as it did. -/
def printerTellsUptoRow : OpenClaim := { program := "ytebjcocmnigjeaa", sum := "16ab8230254473544f73acaa80d1a5f0f648ad38169ff6b28bd17ca25a65b082", func := "variorum/variorumlaw27.PrinterTells", spec := "printerTells", inPlace := ["internal/abi.NoEscape"], unfollowed := true, recurses := true, loops := true, apart := false, narrowed := true }
def PrinterTellsUptoSaid : Prop := printerTellsUptoRow.holds Try.pinned (OpenSpec.upto printerTellsSpec)

/-- 'variorumlaw26.ParserApart', WHERE WHAT IT READS IS OF BULK AT MOST 1048576: true; the input reads as it did. -/
def parserApartUptoRow : OpenClaim := { program := "ytebjcocmnigjeaa", sum := "16ab8230254473544f73acaa80d1a5f0f648ad38169ff6b28bd17ca25a65b082", func := "variorum/variorumlaw26.ParserApart", spec := "parserApart", inPlace := ["internal/bytealg.IndexByteString"], unfollowed := true, recurses := true, apart := false, narrowed := true }
def ParserApartUptoSaid : Prop := parserApartUptoRow.holds Try.pinned (OpenSpec.upto parserApartSpec)

/-- 'variorumlaw26.ParserRight', WHERE WHAT IT READS IS OF BULK AT MOST 1048576: true; the input reads as it did. -/
def parserRightUptoRow : OpenClaim := { program := "ytebjcocmnigjeaa", sum := "16ab8230254473544f73acaa80d1a5f0f648ad38169ff6b28bd17ca25a65b082", func := "variorum/variorumlaw26.ParserRight", spec := "parserRight", unfollowed := true, recurses := true, apart := false, narrowed := true }
def ParserRightUptoSaid : Prop := parserRightUptoRow.holds Try.pinned (OpenSpec.upto parserRightSpec)

end Rows
end Go.Proofs.Ytebjcocmnigjeaa
