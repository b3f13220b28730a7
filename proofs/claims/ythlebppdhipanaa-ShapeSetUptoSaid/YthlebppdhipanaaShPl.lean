/-
  What fits what: by definition; what is so of it.
-/
import Derived.Test.YthlebppdhipanaaShK
import Derived.Test.YthlebppdhipanaaSyX
set_option linter.all false
namespace Go.Proofs.Ythlebppdhipanaa
open Go.Ev
open Go.Aw (tiOf fieldsOf sB)

def sz (s : Sh) : Nat := (partsL s).length
def szs (l : List Sh) : Nat := (partsLs l).length
theorem sz_eq : ∀ s : Sh, sz s = szs s.kids + 1
  | .mk k ns l => by simp [sz, szs, partsL, Sh.kids]
theorem sz_pos (s : Sh) : 0 < sz s := by rw [sz_eq]; omega
theorem sz_mem {l : List Sh} {x : Sh} (h : x ∈ l) : sz x ≤ szs l := partsLs_mem h
theorem sz_kid {s x : Sh} (h : x ∈ s.kids) : sz x < sz s := by have := sz_mem h; rw [sz_eq s]; omega

def sh0 : Sh := .mk 0 [] []
def kid (s : Sh) (i : Nat) : Sh := s.kids.getD i sh0
theorem kid_eq {s : Sh} {i : Nat} (h : i < s.kids.length) : kid s i = s.kids[i] := by simp [kid, h]
def idxO (ns : List ByteArray) (n : ByteArray) : Option Nat := ns.findIdx? fun m => decide (m = n)
/-! ### What right shapes are -/
theorem rightSs_mem : ∀ {l : List Sh}, rightSs l = true → ∀ x ∈ l, rightS x = true
  | [], _, x, h => by simp at h
  | n :: r, h, x, hx => by
    simp only [rightSs, Bool.and_eq_true] at h
    rcases List.mem_cons.1 hx with rfl | hx
    · exact h.1
    · exact rightSs_mem h.2 x hx
theorem rightSs_all : ∀ {l : List Sh}, (∀ x ∈ l, rightS x = true) → rightSs l = true
  | [], _ => rfl
  | n :: r, h => by
    simp only [rightSs, Bool.and_eq_true]
    exact ⟨h n (by simp), rightSs_all fun x hx => h x (by simp [hx])⟩
theorem right_kids {s : Sh} (h : rightS s = true) : ∀ x ∈ s.kids, rightS x = true := by
  obtain ⟨k, ns, l⟩ := s
  simp only [rightS, Bool.and_eq_true] at h
  exact rightSs_mem h.2.1
theorem right_kind {s : Sh} (h : rightS s = true) : 1 ≤ s.kind ∧ s.kind ≤ 8 := by
  obtain ⟨k, ns, l⟩ := s
  simp only [rightS, Bool.and_eq_true] at h
  obtain ⟨_, _, h⟩ := h
  simp only [Sh.kind]
  by_cases h1 : 1 ≤ k ∧ k ≤ 5
  · omega
  · rw [if_neg h1] at h
    by_cases h6 : k = 6
    · omega
    · rw [if_neg h6] at h
      by_cases h7 : k = 7
      · omega
      · rw [if_neg h7] at h
        by_cases h8 : k = 8
        · omega
        · rw [if_neg h8] at h
          cases h
theorem right_names {s : Sh} (h : rightS s = true) (hk : s.kind ≠ 6) : s.names = [] := by
  obtain ⟨k, ns, l⟩ := s
  simp only [rightS, Bool.and_eq_true, Bool.or_eq_true, decide_eq_true_eq] at h
  simp only [Sh.kind] at hk
  simpa [Sh.names, hk] using h.1
theorem right_low {s : Sh} (h : rightS s = true) (hk : s.kind ≤ 5) : s.kids = [] := by
  have h1 := (right_kind h).1
  obtain ⟨k, ns, l⟩ := s
  simp only [Sh.kind] at hk h1
  simp only [rightS, Bool.and_eq_true] at h
  obtain ⟨_, _, h⟩ := h
  rw [if_pos ⟨h1, hk⟩] at h
  simpa [Sh.kids] using h
theorem right_rec {s : Sh} (h : rightS s = true) (hk : s.kind = 6) : s.kids.length = s.names.length ∧ s.names.all nameB = true ∧ risingB s.names = true := by
  obtain ⟨k, ns, l⟩ := s
  simp only [Sh.kind] at hk
  subst hk
  simp only [rightS, Bool.and_eq_true, decide_eq_true_eq] at h
  obtain ⟨_, _, h⟩ := h
  simp at h
  exact ⟨h.2.1, by simpa [Sh.names] using h.1, h.2.2⟩
theorem right_fun {s : Sh} (h : rightS s = true) (hk : s.kind = 7) : 0 < s.kids.length := by
  obtain ⟨k, ns, l⟩ := s
  simp only [Sh.kind] at hk
  subst hk
  simp only [rightS, Bool.and_eq_true, decide_eq_true_eq] at h
  obtain ⟨_, _, h⟩ := h
  simpa [Sh.kids, List.length_pos_iff] using h
theorem right_or {s : Sh} (h : rightS s = true) (hk : s.kind = 8) : 1 < s.kids.length ∧ s.kids.any partedK = false ∧ risingB (s.kids.map txt) = true := by
  obtain ⟨k, ns, l⟩ := s
  simp only [Sh.kind] at hk
  subst hk
  simp only [rightS, Bool.and_eq_true, decide_eq_true_eq] at h
  obtain ⟨_, _, h⟩ := h
  simp at h
  exact ⟨h.1, by simpa [Sh.kids] using h.2.1, h.2.2⟩

/-! ### Pairs -/
structure Pr where
  w : ByteArray
  a : Sh
  b : Sh
  lack : Bool
def lackPs (a : Sh) : List ByteArray → List Pr
  | [] => []
  | n :: r => (match idxO a.names n with | some _ => [] | none => [⟨n, sh0, sh0, true⟩]) ++ lackPs a r
def havePs (a : Sh) : List ByteArray → List Sh → List Pr
  | n :: ns, k :: ks => (match idxO a.names n with | some j => [⟨n, kid a j, k, false⟩] | none => []) ++ havePs a ns ks
  | _, _ => []
/-- A number's digits. -/
def decF : Nat → Nat → List UInt8
  | 0, n => [UInt8.ofNat (48 + n)]
  | f + 1, n => if n < 10 then [UInt8.ofNat (48 + n)] else decF f (n / 10) ++ [UInt8.ofNat (48 + n % 10)]
def decB (n : Nat) : ByteArray := bA (decF 3 n)
def argB (n : Nat) : ByteArray := bA ([97, 114, 103, 117, 109, 101, 110, 116, 32] ++ sB (decB n))
def resB : ByteArray := ⟨#[114, 101, 115, 117, 108, 116]⟩
def sigPs (a b : Sh) : List Pr := ((List.range (a.kids.length - 1)).map fun i => Pr.mk (argB (i + 1)) (kid b i) (kid a i) false) ++ [⟨resB, kid a (a.kids.length - 1), kid b (a.kids.length - 1), false⟩]
def innerPs (a b : Sh) : Option (List Pr) := if a.kind = 6 then some (lackPs a b.names ++ havePs a b.names b.kids) else if a.kids.length = b.kids.length then some (sigPs a b) else none

def fitsN : Nat → Sh → Sh → Bool
  | 0, _, _ => true
  | N + 1, a, b =>
    if a.kind = 1 ∨ b.kind = 1 then true
    else if a.kind = 8 then a.kids.all fun k => fitsN N k b
    else if b.kind = 8 then b.kids.any fun k => fitsN N a k
    else if a.kind ≠ b.kind ∨ a.kind < 6 then decide (a.kind = b.kind)
    else match innerPs a b with
      | some l => l.all fun p => !p.lack && fitsN N p.a p.b
      | none => false

def fitsS (a b : Sh) : Bool := fitsN (sz a + sz b) a b
/-! ### By kinds -/
section
variable {a b : Sh} (ha : rightS a = true) (hb : rightS b = true)
include ha hb
end

/-! ### Nothing is anything -/
mutual
def staticS : Sh → Bool
  | .mk k _ l => staticSs l && decide (k ≠ 1)
def staticSs : List Sh → Bool
  | [] => true
  | n :: r => staticS n && staticSs r
end
end Go.Proofs.Ythlebppdhipanaa

/-
  Is a shape good; its text.
-/
namespace Go.Proofs.Ythlebppdhipanaa
open Go.Ev
open Go.Aw (tiOf fieldsOf sB)

@[simp] theorem uk3 : ukOf Try.prog 3 = .oth := by kernel_rfl
@[simp] theorem uk4 : ukOf Try.prog 4 = .bool := by kernel_rfl
@[simp] theorem uk5 : ukOf Try.prog 5 = .oth := by kernel_rfl
@[simp] theorem uk9 : ukOf Try.prog 9 = .oth := by kernel_rfl
@[simp] theorem uk25 : ukOf Try.prog 25 = .oth := by kernel_rfl

/-! ### Tables on shapes -/
noncomputable def shT (q : Sh → Prop) (r : Sh → D) : List D → Option (Prop × D) := ctr (fun n : Sh => [.agg (rowS n)]) q r
theorem shT_eq (q : Sh → Prop) (r : Sh → D) (n : Sh) : shT q r [.agg (rowS n)] = some (q n, r n) := ctr_enc (fun a b h => by simp at h; exact rowS_inj _ _ h) n
theorem shT_ok {g : FuncId} {q : Sh → Prop} {r : Sh → D} (h : ∀ n, q n → FnO Try.prog g [.agg (rowS n)] (.ret (r n))) (hb : ∀ n, D.bel 0 (r n) = true) : ∀ xs p d, shT q r xs = some (p, d) → p → FnO Try.prog g xs (.ret d) ∧ D.belL 0 xs = true ∧ D.bel 0 d = true :=
  ctr_ok fun n hn => ⟨h n hn, by simp, hb n⟩
noncomputable def shIT (q : Sh → Int → Prop) (r : Sh → Int → D) : List D → Option (Prop × D) := ctr (fun p : Sh × Int => [.agg (rowS p.1), .lit (.int .i64 p.2)]) (fun p => q p.1 p.2) (fun p => r p.1 p.2)
theorem shIT_eq (q : Sh → Int → Prop) (r : Sh → Int → D) (n : Sh) (i : Int) : shIT q r [.agg (rowS n), .lit (.int .i64 i)] = some (q n i, r n i) := ctr_enc (fun a b h => by simp at h; exact Prod.ext (rowS_inj _ _ h.1) h.2) (n, i)
theorem shIT_ok {g : FuncId} {q : Sh → Int → Prop} {r : Sh → Int → D} (h : ∀ n i, q n i → FnO Try.prog g [.agg (rowS n), .lit (.int .i64 i)] (.ret (r n i))) (hb : ∀ n i, D.bel 0 (r n i) = true) : ∀ xs p d, shIT q r xs = some (p, d) → p → FnO Try.prog g xs (.ret d) ∧ D.belL 0 xs = true ∧ D.bel 0 d = true :=
  ctr_ok fun p hp => ⟨h p.1 p.2 hp, by simp, hb p.1 p.2⟩
noncomputable def sh2T (q : Sh → Sh → Prop) (r : Sh → Sh → D) : List D → Option (Prop × D) := ctr (fun p : Sh × Sh => [.agg (rowS p.1), .agg (rowS p.2)]) (fun p => q p.1 p.2) (fun p => r p.1 p.2)
def goodS (s : Sh) : Bool := decide (sz s ≤ 512) && rightS s
def limP (s : Sh) : Prop := limS s = true ∧ sz s ≤ 1000000
def tbool (f : Sh → Bool) (n : Sh) : D := .lit (.bool (f n))
def fewS (s : Sh) : Bool := decide (sz s ≤ 512)
theorem few_ok' (n : Sh) (h : limP n) : FnO Try.prog 65 [.agg (rowS n)] (.ret (tbool fewS n)) := few_ok n h.2
theorem right_ok' (n : Sh) (h : limP n) : FnO Try.prog 66 [.agg (rowS n)] (.ret (tbool rightS n)) := right_ok n h.1 h.2
theorem tbool_bel (f : Sh → Bool) (n : Sh) : D.bel 0 (tbool f n) = true := by simp [tbool]

set_option maxRecDepth 10000 in
theorem good_ok (s : Sh) (h : limP s) : FnO Try.prog 39 [.agg (rowS s)] (.ret (tbool goodS s)) := by
  have ht := tbC_ok (shT_ok few_ok' (tbool_bel _)) (tbC_ok (shT_ok right_ok' (tbool_bel _)) (tb0_ok _))
  refine fnO_wp ht fol Try.func39 rfl (by kernel_rfl) (by simp [Try.ntmps39]) (by kernel_rfl) fun I => ?_
  cases hF : fewS s with
  | true =>
    simp -implicitDefEqProofs [Try.ntmps39, shT_eq, tbool, hF, h]
    exact seals_bool (by simp only [goodS]; simp only [fewS] at hF; simp [hF])
  | false =>
    simp -implicitDefEqProofs [Try.ntmps39, shT_eq, tbool, hF, h]
    exact seals_bool (by simp only [goodS]; simp only [fewS] at hF; simp [hF])

def textG (s : Sh) : ByteArray := if goodS s then txt s else ⟨#[]⟩
theorem textP_ok (n : Sh) (h : limP n ∧ rightS n = true) : FnO Try.prog 46 [.agg (rowS n)] (.ret (.lit (.string (txt n)))) := text_ok n (right_okT n h.1.1 h.2) h.1.2

set_option maxRecDepth 10000 in
theorem textT_ok (s : Sh) (h : limP s) : FnO Try.prog 54 [.agg (rowS s)] (.ret (.lit (.string (textG s)))) := by
  have ht := tbC_ok (shT_ok good_ok (tbool_bel _)) (tbC_ok (shT_ok (r := fun n => .lit (.string (txt n))) textP_ok (by simp)) (tb0_ok _))
  refine fnO_wp ht fol Try.func54 rfl (by kernel_rfl) (by simp [Try.ntmps54]) (by kernel_rfl) fun I => ?_
  cases hG : goodS s with
  | true =>
    have hR : rightS s = true := by simp only [goodS, Bool.and_eq_true] at hG; exact hG.2
    simp -implicitDefEqProofs [Try.ntmps54, shT_eq, tbool, hG, h, hR]
    simp only [textG, hG, if_true]
    exact .same _ (by simp)
  | false =>
    simp -implicitDefEqProofs [Try.ntmps54, shT_eq, tbool, hG, h]
    simp only [textG, hG]
    exact .same _ (by simp)
end Go.Proofs.Ythlebppdhipanaa
