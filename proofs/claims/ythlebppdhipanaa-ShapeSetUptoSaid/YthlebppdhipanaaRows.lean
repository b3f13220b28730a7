/-
  NARROWER THAN 'FOR EVERY INPUT', by the rows' own cells (each row's printed sentence says how): SubtypeChain: loops · SubtypeAny: loops · SubtypeTells: loops · SubtypeOwn: loops · MergeCalls: loops · ShapeSet: loops · ShapeMakes: loops.
  DERIVED. THE GIVEN ROWS OF THIS SEAT. 7 by the template 'for every input the law returns true; each argument reads behind the call as it read before'; 0 by the template 'total and deterministic' (their statements: YthlebppdhipanaaTotals.lean).
  GIVEN WITH THE SEED: the statements are not yours to turn. If you find one false, say at which input.
  Laid BY PROGRAM, IN A SANDBOX (cutbox-rows.mjs): the forced cells as the released guide's own fill.sh prints them over the translation 4541f468d67e1778… (all of the seat's roots in one cut). By AI agents, Wed Nov 11 2026. No macro, syntax, notation, axiom, sorry.
-/
import Derived.Test.YthlebppdhipanaaChecked
import GoSem.Claim
import GoSem.ClaimJoined
import GoSem.ClaimMapViews
import Derived.JoinedTies
import Derived.KernelRfl
namespace Go.Proofs.Ythlebppdhipanaa
/- THE CELL 'sum', in the pinned program and in every row, IS THE sha256 OF THE DUMP (.gsa) THAT YthlebppdhipanaaProg.lean LOADS. Nothing in Lean hashes anything: it is a label: what it is worth is what the hold of that sum in a sandbox is worth. -/
noncomputable def Try.pinned : Pinned := { name := "ythlebppdhipanaa", sum := "4541f468d67e1778d7e6890ea3ca277db56d6b45f79be82f7686b62a24300d7c", checked := Try.checked }
namespace Rows
def none {H : Type} : Left H := { results := [], args := [] }

/-- 'variorumlaw30.SubtypeChain': WHATEVER THE INPUT: true; the input reads as it did. -/
def subtypeChainSpec : ChangeSpec := { name := "subtypeChain", fn := fun _ => fun
  | [d1, d2, d3] => { results := [.lit (.bool true)], args := [d1, d2, d3] }
  | _ => none }
def subtypeChainRow : OpenClaim := { program := "ythlebppdhipanaa", sum := "4541f468d67e1778d7e6890ea3ca277db56d6b45f79be82f7686b62a24300d7c", func := "variorum/variorumlaw30.SubtypeChain", spec := "subtypeChain", inPlace := ["internal/abi.NoEscape", "internal/bytealg.MakeNoZero"], unfollowed := true, recurses := true, loops := true, apart := false }
def SubtypeChainSaid : Prop := subtypeChainRow.holds Try.pinned (OpenSpec.ofChange subtypeChainSpec)

/-- ITS FALSE NEIGHBOUR: 'it returns false'. Refute it at one input. -/
def subtypeChainWrong : ChangeSpec := { name := "subtypeChain", fn := fun _ => fun
  | [d1, d2, d3] => { results := [.lit (.bool false)], args := [d1, d2, d3] }
  | _ => none }
def SubtypeChainWrongFalsely : Prop := subtypeChainRow.holds Try.pinned (OpenSpec.ofChange subtypeChainWrong)

/-- 'variorumlaw30.SubtypeAny': WHATEVER THE INPUT: true; the input reads as it did. -/
def subtypeAnySpec : ChangeSpec := { name := "subtypeAny", fn := fun _ => fun
  | [d1, d2, d3] => { results := [.lit (.bool true)], args := [d1, d2, d3] }
  | _ => none }
def subtypeAnyRow : OpenClaim := { program := "ythlebppdhipanaa", sum := "4541f468d67e1778d7e6890ea3ca277db56d6b45f79be82f7686b62a24300d7c", func := "variorum/variorumlaw30.SubtypeAny", spec := "subtypeAny", inPlace := ["internal/abi.NoEscape", "internal/bytealg.MakeNoZero"], unfollowed := true, recurses := true, loops := true, apart := false }
def SubtypeAnySaid : Prop := subtypeAnyRow.holds Try.pinned (OpenSpec.ofChange subtypeAnySpec)

/-- ITS FALSE NEIGHBOUR: 'it returns false'. Refute it at one input. -/
def subtypeAnyWrong : ChangeSpec := { name := "subtypeAny", fn := fun _ => fun
  | [d1, d2, d3] => { results := [.lit (.bool false)], args := [d1, d2, d3] }
  | _ => none }
def SubtypeAnyWrongFalsely : Prop := subtypeAnyRow.holds Try.pinned (OpenSpec.ofChange subtypeAnyWrong)

/-- 'variorumlaw30.SubtypeTells': WHATEVER THE INPUT: true; the input reads as it did. -/
def subtypeTellsSpec : ChangeSpec := { name := "subtypeTells", fn := fun _ => fun
  | [d1, d2] => { results := [.lit (.bool true)], args := [d1, d2] }
  | _ => none }
def subtypeTellsRow : OpenClaim := { program := "ythlebppdhipanaa", sum := "4541f468d67e1778d7e6890ea3ca277db56d6b45f79be82f7686b62a24300d7c", func := "variorum/variorumlaw30.SubtypeTells", spec := "subtypeTells", inPlace := ["internal/abi.NoEscape", "internal/bytealg.MakeNoZero"], unfollowed := true, recurses := true, loops := true, apart := false }
def SubtypeTellsSaid : Prop := subtypeTellsRow.holds Try.pinned (OpenSpec.ofChange subtypeTellsSpec)

/-- ITS FALSE NEIGHBOUR: 'it returns false'. Refute it at one input. -/
def subtypeTellsWrong : ChangeSpec := { name := "subtypeTells", fn := fun _ => fun
  | [d1, d2] => { results := [.lit (.bool false)], args := [d1, d2] }
  | _ => none }
def SubtypeTellsWrongFalsely : Prop := subtypeTellsRow.holds Try.pinned (OpenSpec.ofChange subtypeTellsWrong)

/-- 'variorumlaw30.SubtypeOwn': WHATEVER THE INPUT: true; the input reads as it did. -/
def subtypeOwnSpec : ChangeSpec := { name := "subtypeOwn", fn := fun _ => fun
  | [d1, d2, d3] => { results := [.lit (.bool true)], args := [d1, d2, d3] }
  | _ => none }
def subtypeOwnRow : OpenClaim := { program := "ythlebppdhipanaa", sum := "4541f468d67e1778d7e6890ea3ca277db56d6b45f79be82f7686b62a24300d7c", func := "variorum/variorumlaw30.SubtypeOwn", spec := "subtypeOwn", inPlace := ["internal/abi.NoEscape", "internal/bytealg.MakeNoZero"], unfollowed := true, recurses := true, loops := true, apart := false }
def SubtypeOwnSaid : Prop := subtypeOwnRow.holds Try.pinned (OpenSpec.ofChange subtypeOwnSpec)

/-- ITS FALSE NEIGHBOUR: 'it returns false'. Refute it at one input. -/
def subtypeOwnWrong : ChangeSpec := { name := "subtypeOwn", fn := fun _ => fun
  | [d1, d2, d3] => { results := [.lit (.bool false)], args := [d1, d2, d3] }
  | _ => none }
def SubtypeOwnWrongFalsely : Prop := subtypeOwnRow.holds Try.pinned (OpenSpec.ofChange subtypeOwnWrong)

/-- 'variorumlaw31.MergeCalls': WHATEVER THE INPUT: true; the input reads as it did. -/
def mergeCallsSpec : ChangeSpec := { name := "mergeCalls", fn := fun _ => fun
  | [d1, d2] => { results := [.lit (.bool true)], args := [d1, d2] }
  | _ => none }
def mergeCallsRow : OpenClaim := { program := "ythlebppdhipanaa", sum := "4541f468d67e1778d7e6890ea3ca277db56d6b45f79be82f7686b62a24300d7c", func := "variorum/variorumlaw31.MergeCalls", spec := "mergeCalls", inPlace := ["internal/abi.NoEscape", "internal/bytealg.MakeNoZero"], unfollowed := true, recurses := true, loops := true, apart := false }
def MergeCallsSaid : Prop := mergeCallsRow.holds Try.pinned (OpenSpec.ofChange mergeCallsSpec)

/-- ITS FALSE NEIGHBOUR: 'it returns false'. Refute it at one input. -/
def mergeCallsWrong : ChangeSpec := { name := "mergeCalls", fn := fun _ => fun
  | [d1, d2] => { results := [.lit (.bool false)], args := [d1, d2] }
  | _ => none }
def MergeCallsWrongFalsely : Prop := mergeCallsRow.holds Try.pinned (OpenSpec.ofChange mergeCallsWrong)

/-- 'variorumlaw29.ShapeSet': WHATEVER THE INPUT: true; the input reads as it did. -/
def shapeSetSpec : ChangeSpec := { name := "shapeSet", fn := fun _ => fun
  | [d1, d2] => { results := [.lit (.bool true)], args := [d1, d2] }
  | _ => none }
def shapeSetRow : OpenClaim := { program := "ythlebppdhipanaa", sum := "4541f468d67e1778d7e6890ea3ca277db56d6b45f79be82f7686b62a24300d7c", func := "variorum/variorumlaw29.ShapeSet", spec := "shapeSet", inPlace := ["internal/abi.NoEscape", "internal/bytealg.MakeNoZero", "internal/bytealg.abigen_runtime_cmpstring"], unfollowed := true, recurses := true, loops := true, apart := false }
def ShapeSetSaid : Prop := shapeSetRow.holds Try.pinned (OpenSpec.ofChange shapeSetSpec)

/-- ITS FALSE NEIGHBOUR: 'it returns false'. Refute it at one input. -/
def shapeSetWrong : ChangeSpec := { name := "shapeSet", fn := fun _ => fun
  | [d1, d2] => { results := [.lit (.bool false)], args := [d1, d2] }
  | _ => none }
def ShapeSetWrongFalsely : Prop := shapeSetRow.holds Try.pinned (OpenSpec.ofChange shapeSetWrong)

/-- 'variorumlaw29.ShapeMakes': WHATEVER THE INPUT: true; the input reads as it did. -/
def shapeMakesSpec : ChangeSpec := { name := "shapeMakes", fn := fun _ => fun
  | [d1, d2, d3, d4] => { results := [.lit (.bool true)], args := [d1, d2, d3, d4] }
  | _ => none }
def shapeMakesRow : OpenClaim := { program := "ythlebppdhipanaa", sum := "4541f468d67e1778d7e6890ea3ca277db56d6b45f79be82f7686b62a24300d7c", func := "variorum/variorumlaw29.ShapeMakes", spec := "shapeMakes", inPlace := ["internal/abi.NoEscape", "internal/bytealg.MakeNoZero", "internal/bytealg.abigen_runtime_cmpstring"], unfollowed := true, recurses := true, loops := true, apart := false }
def ShapeMakesSaid : Prop := shapeMakesRow.holds Try.pinned (OpenSpec.ofChange shapeMakesSpec)

/-- ITS FALSE NEIGHBOUR: 'it returns false'. Refute it at one input. -/
def shapeMakesWrong : ChangeSpec := { name := "shapeMakes", fn := fun _ => fun
  | [d1, d2, d3, d4] => { results := [.lit (.bool false)], args := [d1, d2, d3, d4] }
  | _ => none }
def ShapeMakesWrongFalsely : Prop := shapeMakesRow.holds Try.pinned (OpenSpec.ofChange shapeMakesWrong)

/- THE SECOND FORM. 'bulk': how many values and letters a reading holds, each counted each time it is reached (what is shared counts as often as it is met; a slice's spare places count too). A statement '..UptoSaid' is the law's where the arguments, and the package variables that the reading takes, are together of bulk at most 1048576: NARROWER than '..Said'. Prove '..Said' where nothing that the law and all that it calls make is longer than what came in: it says more and counts as full. Else prove '..UptoSaid'. A law counts once. -/
mutual
def uptoBulk {H : Type} : DataW H → Nat
  | .lit (.string bytes) => bytes.length + 1
  | .lit _ => 1
  | .nil => 1
  | .ptr d => uptoBulk d + 1
  | .slice elems spare => uptoBulkAll elems + uptoBulkAll spare + 1
  | .agg parts => uptoBulkAll parts + 1
  | .iface _ d => uptoBulk d + 1
  | .map entries => uptoBulkEntries entries + 1
  | .held _ => 1
def uptoBulkAll {H : Type} : List (DataW H) → Nat
  | [] => 0
  | d :: r => uptoBulk d + uptoBulkAll r
def uptoBulkEntries {H : Type} : List (Lit × DataW H) → Nat
  | [] => 0
  | x :: r => uptoBulkEntry x + uptoBulkEntries r
def uptoBulkEntry {H : Type} : Lit × DataW H → Nat
  | (.string bytes, d) => bytes.length + uptoBulk d + 1
  | (_, d) => uptoBulk d + 1
 end
def uptoSmall : (H : Type) → List (DataW H) → Bool := fun _ ds => decide (uptoBulkAll ds ≤ 1048576)
def OpenSpec.upto (s : _root_.Go.ChangeSpec) : _root_.Go.OpenSpec := { _root_.Go.OpenSpec.ofChange s with cond := some uptoSmall }

/-- 'variorumlaw30.SubtypeChain', WHERE WHAT IT READS IS OF BULK AT MOST 1048576: true; the input reads as it did. -/
def subtypeChainUptoRow : OpenClaim := { program := "ythlebppdhipanaa", sum := "4541f468d67e1778d7e6890ea3ca277db56d6b45f79be82f7686b62a24300d7c", func := "variorum/variorumlaw30.SubtypeChain", spec := "subtypeChain", inPlace := ["internal/abi.NoEscape", "internal/bytealg.MakeNoZero"], unfollowed := true, recurses := true, loops := true, apart := false, narrowed := true }
def SubtypeChainUptoSaid : Prop := subtypeChainUptoRow.holds Try.pinned (OpenSpec.upto subtypeChainSpec)

/-- 'variorumlaw30.SubtypeAny', WHERE WHAT IT READS IS OF BULK AT MOST 1048576: true; the input reads as it did. -/
def subtypeAnyUptoRow : OpenClaim := { program := "ythlebppdhipanaa", sum := "4541f468d67e1778d7e6890ea3ca277db56d6b45f79be82f7686b62a24300d7c", func := "variorum/variorumlaw30.SubtypeAny", spec := "subtypeAny", inPlace := ["internal/abi.NoEscape", "internal/bytealg.MakeNoZero"], unfollowed := true, recurses := true, loops := true, apart := false, narrowed := true }
def SubtypeAnyUptoSaid : Prop := subtypeAnyUptoRow.holds Try.pinned (OpenSpec.upto subtypeAnySpec)

/-- 'variorumlaw30.SubtypeTells', WHERE WHAT IT READS IS OF BULK AT MOST 1048576: true; the input reads as it did. -/
def subtypeTellsUptoRow : OpenClaim := { program := "ythlebppdhipanaa", sum := "4541f468d67e1778d7e6890ea3ca277db56d6b45f79be82f7686b62a24300d7c", func := "variorum/variorumlaw30.SubtypeTells", spec := "subtypeTells", inPlace := ["internal/abi.NoEscape", "internal/bytealg.MakeNoZero"], unfollowed := true, recurses := true, loops := true, apart := false, narrowed := true }
def SubtypeTellsUptoSaid : Prop := subtypeTellsUptoRow.holds Try.pinned (OpenSpec.upto subtypeTellsSpec)

/-- 'variorumlaw30.SubtypeOwn', WHERE WHAT IT READS IS OF BULK AT MOST 1048576: true; the input reads as it did. -/
def subtypeOwnUptoRow : OpenClaim := { program := "ythlebppdhipanaa", sum := "4541f468d67e1778d7e6890ea3ca277db56d6b45f79be82f7686b62a24300d7c", func := "variorum/variorumlaw30.SubtypeOwn", spec := "subtypeOwn", inPlace := ["internal/abi.NoEscape", "internal/bytealg.MakeNoZero"], unfollowed := true, recurses := true, loops := true, apart := false, narrowed := true }
def SubtypeOwnUptoSaid : Prop := subtypeOwnUptoRow.holds Try.pinned (OpenSpec.upto subtypeOwnSpec)

/-- 'variorumlaw31.MergeCalls', WHERE WHAT IT READS IS OF BULK AT MOST 1048576: true; the input reads as it did. -/
def mergeCallsUptoRow : OpenClaim := { program := "ythlebppdhipanaa", sum := "4541f468d67e1778d7e6890ea3ca277db56d6b45f79be82f7686b62a24300d7c", func := "variorum/variorumlaw31.MergeCalls", spec := "mergeCalls", inPlace := ["internal/abi.NoEscape", "internal/bytealg.MakeNoZero"], unfollowed := true, recurses := true, loops := true, apart := false, narrowed := true }
def MergeCallsUptoSaid : Prop := mergeCallsUptoRow.holds Try.pinned (OpenSpec.upto mergeCallsSpec)

/-- 'variorumlaw29.ShapeSet', WHERE WHAT IT READS IS OF BULK AT MOST 1048576: true; the input reads as it did. -/
def shapeSetUptoRow : OpenClaim := { program := "ythlebppdhipanaa", sum := "4541f468d67e1778d7e6890ea3ca277db56d6b45f79be82f7686b62a24300d7c", func := "variorum/variorumlaw29.ShapeSet", spec := "shapeSet", inPlace := ["internal/abi.NoEscape", "internal/bytealg.MakeNoZero", "internal/bytealg.abigen_runtime_cmpstring"], unfollowed := true, recurses := true, loops := true, apart := false, narrowed := true }
def ShapeSetUptoSaid : Prop := shapeSetUptoRow.holds Try.pinned (OpenSpec.upto shapeSetSpec)

/-- 'variorumlaw29.ShapeMakes', WHERE WHAT IT READS IS OF BULK AT MOST 1048576: true; the input reads as it did. -/
def shapeMakesUptoRow : OpenClaim := { program := "ythlebppdhipanaa", sum := "4541f468d67e1778d7e6890ea3ca277db56d6b45f79be82f7686b62a24300d7c", func := "variorum/variorumlaw29.ShapeMakes", spec := "shapeMakes", inPlace := ["internal/abi.NoEscape", "internal/bytealg.MakeNoZero", "internal/bytealg.abigen_runtime_cmpstring"], unfollowed := true, recurses := true, loops := true, apart := false, narrowed := true }
def ShapeMakesUptoSaid : Prop := shapeMakesUptoRow.holds Try.pinned (OpenSpec.upto shapeMakesSpec)

end Rows
end Go.Proofs.Ythlebppdhipanaa
