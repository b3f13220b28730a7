/-
  Numbers' digits, as they are reckoned.
-/
import Derived.Test.YthlebppdhipanaaShQ
import Derived.Test.YthlebppdhipanaaSyS
import Derived.Test.YthlebppdhipanaaSyY
set_option linter.all false
namespace Go.Proofs.Ythlebppdhipanaa
open Go.Ev
open Go.Aw (tiOf fieldsOf sB)
/-! ### Numbers -/
def exL : List (FuncId × XK) := []
noncomputable def cntC (n : Nat) : Bool := isD (.lit (.string (bA (decF 0 n)))) ((eng Try.prog (exT exL) (drawE Try.prog) 1000 60).1 131 [.lit (.int .i64 (n : Int))] { hp := .e, nx := 0 })
noncomputable def cnT (q : Nat → Prop) (r : Nat → List UInt8) : List D → Option (Prop × D) := ctr (fun n : Nat => [.lit (.int .i64 (n : Int))]) q (fun n => .lit (.string (bA (r n))))
end Go.Proofs.Ythlebppdhipanaa

/-
  The pairs of two shapes of one kind, told one by one.
-/
namespace Go.Proofs.Ythlebppdhipanaa
open Go.Ev
open Go.Aw (tiOf fieldsOf sB)
@[simp] theorem ti79 : tiOf Try.prog 79 = some ⟨8, 136, (.st [(0, 9), (1, 25), (4, 25), (7, 4)]), [.zs, (.zn .i64), .zl, .zl, (.zn .i64), .zl, .zl, .zb]⟩ := by kernel_rfl
@[simp] theorem fo79_0 : fieldsOf Try.prog 79 0 = some ((0, ⟨1, 16, .str, [.zs]⟩)) := by kernel_rfl
@[simp] theorem fo79_1 : fieldsOf Try.prog 79 1 = some ((1, ⟨3, 56, (.st [(0, 3), (1, 22), (2, 23)]), [(.zn .i64), .zl, .zl]⟩)) := by kernel_rfl
@[simp] theorem fo79_2 : fieldsOf Try.prog 79 2 = some ((4, ⟨3, 56, (.st [(0, 3), (1, 22), (2, 23)]), [(.zn .i64), .zl, .zl]⟩)) := by kernel_rfl
@[simp] theorem fo79_3 : fieldsOf Try.prog 79 3 = some ((7, ⟨1, 1, .bool, [.zb]⟩)) := by kernel_rfl
@[simp] theorem pl79 : Go.Aw.plOf Try.prog 79 = some ([(0, 1), (1, 3), (4, 3), (7, 1)]) := by kernel_rfl
@[simp] theorem ti75 : tiOf Try.prog 75 = some ⟨1, 8, .oth, [.zf]⟩ := by kernel_rfl
@[simp] theorem ti131 : tiOf Try.prog 131 = some ⟨1, 8, .oth, [.zf]⟩ := by kernel_rfl
@[simp] theorem uk75 : ukOf Try.prog 75 = .fn := by kernel_rfl

/-! ### The place of a name -/
def idxN (ns : List ByteArray) (n : ByteArray) : Int := idxI (fun m => decide (m = n)) ns
noncomputable def inT : List D → Option (Prop × D) := ctr (fun p : List ByteArray × ByteArray => [.sq false 1 (strsD p.1), .lit (.string p.2)]) (fun p => p.1.length ≤ 1000000) (fun p => .lit (.int .i64 (idxN p.1 p.2)))
noncomputable def atT (a : Sh) : List D → Option (Prop × D) := ctr (fun n : ByteArray => [.lit (.string n), .ps none (rowS a) 0]) (fun _ => True) (fun n => .lit (.int .i64 (idxN a.names n)))
@[simp] theorem rowS_drop6 (x : Sh) (r : List D) : (rowS x ++ r).drop 6 = r.drop 3 := by cases x; simp [rowS]
@[simp] theorem rowS_drop3 (x : Sh) (r : List D) : (rowS x ++ r).drop 3 = r := by cases x; simp [rowS]
@[simp] theorem rowS_take3 (x : Sh) (r : List D) : (rowS x ++ r).take 3 = rowS x := by cases x; simp [rowS]

/-! ### The pairs -/
def zrow : List D := [.lit (.int .i64 0), .lit (.slice none 0 0), .lit (.slice none 0 0)]
def rowP (p : Pr) : List D := .lit (.string p.w) :: ((bif p.lack then zrow else rowS p.a) ++ ((bif p.lack then zrow else rowS p.b) ++ [.lit (.bool p.lack)]))
@[simp] theorem rowP_bel (p : Pr) : D.belL 0 (rowP p) = true := by
  obtain ⟨w, a, b, l⟩ := p
  cases l <;> simp [rowP, zrow]
def fldP (a b : Sh) : List Pr := lackPs a b.names ++ havePs a b.names b.kids

def innerD (a b : Sh) : D := if a.kind = 6 then .tup [.fn (.func 127) [] [.ps none (rowS a) 0, .ps none (rowS b) 0], .lit (.bool true)] else if a.kids.length = b.kids.length then .tup [.fn (.func 130) [] [.ps none (rowS a) 0, .ps none (rowS b) 0], .lit (.bool true)] else .tup [.lit .nilFunc, .lit (.bool false)]
end Go.Proofs.Ythlebppdhipanaa
