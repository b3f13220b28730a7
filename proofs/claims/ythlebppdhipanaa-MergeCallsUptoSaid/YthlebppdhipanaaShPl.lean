/-
  What fits what: by definition; what is so of it.
-/
import Derived.Test.YthlebppdhipanaaShK
import Derived.Test.YthlebppdhipanaaSyX
set_option linter.all false
namespace Go.Proofs.Ythlebppdhipanaa
open Go.Ev
open Go.Aw (tiOf fieldsOf sB)

def sz (s : Sh) : Nat := (partsL s).length
def szs (l : List Sh) : Nat := (partsLs l).length
theorem sz_eq : ∀ s : Sh, sz s = szs s.kids + 1
  | .mk k ns l => by simp [sz, szs, partsL, Sh.kids]
theorem sz_pos (s : Sh) : 0 < sz s := by rw [sz_eq]; omega
theorem sz_mem {l : List Sh} {x : Sh} (h : x ∈ l) : sz x ≤ szs l := partsLs_mem h
theorem sz_kid {s x : Sh} (h : x ∈ s.kids) : sz x < sz s := by have := sz_mem h; rw [sz_eq s]; omega

def sh0 : Sh := .mk 0 [] []
def kid (s : Sh) (i : Nat) : Sh := s.kids.getD i sh0
theorem kid_eq {s : Sh} {i : Nat} (h : i < s.kids.length) : kid s i = s.kids[i] := by simp [kid, h]
theorem kid_mem {s : Sh} {i : Nat} (h : i < s.kids.length) : kid s i ∈ s.kids := by rw [kid_eq h]; exact List.getElem_mem h
theorem kid_lt {s : Sh} {i : Nat} (h : i < s.kids.length) : sz (kid s i) < sz s := sz_kid (kid_mem h)

def idxO (ns : List ByteArray) (n : ByteArray) : Option Nat := ns.findIdx? fun m => decide (m = n)
theorem idxO_lt {ns : List ByteArray} {n : ByteArray} {j : Nat} (h : idxO ns n = some j) : ∃ hj : j < ns.length, ns[j] = n := by
  unfold idxO at h
  rw [List.findIdx?_eq_some_iff_getElem] at h
  obtain ⟨h1, h2, _⟩ := h
  exact ⟨h1, by simpa using h2⟩
/-! ### What right shapes are -/
theorem rightSs_mem : ∀ {l : List Sh}, rightSs l = true → ∀ x ∈ l, rightS x = true
  | [], _, x, h => by simp at h
  | n :: r, h, x, hx => by
    simp only [rightSs, Bool.and_eq_true] at h
    rcases List.mem_cons.1 hx with rfl | hx
    · exact h.1
    · exact rightSs_mem h.2 x hx
theorem rightSs_all : ∀ {l : List Sh}, (∀ x ∈ l, rightS x = true) → rightSs l = true
  | [], _ => rfl
  | n :: r, h => by
    simp only [rightSs, Bool.and_eq_true]
    exact ⟨h n (by simp), rightSs_all fun x hx => h x (by simp [hx])⟩
theorem right_kids {s : Sh} (h : rightS s = true) : ∀ x ∈ s.kids, rightS x = true := by
  obtain ⟨k, ns, l⟩ := s
  simp only [rightS, Bool.and_eq_true] at h
  exact rightSs_mem h.2.1
theorem right_kid {s : Sh} (h : rightS s = true) {i : Nat} (hi : i < s.kids.length) : rightS (kid s i) = true := right_kids h _ (kid_mem hi)
theorem right_kind {s : Sh} (h : rightS s = true) : 1 ≤ s.kind ∧ s.kind ≤ 8 := by
  obtain ⟨k, ns, l⟩ := s
  simp only [rightS, Bool.and_eq_true] at h
  obtain ⟨_, _, h⟩ := h
  simp only [Sh.kind]
  by_cases h1 : 1 ≤ k ∧ k ≤ 5
  · omega
  · rw [if_neg h1] at h
    by_cases h6 : k = 6
    · omega
    · rw [if_neg h6] at h
      by_cases h7 : k = 7
      · omega
      · rw [if_neg h7] at h
        by_cases h8 : k = 8
        · omega
        · rw [if_neg h8] at h
          cases h
theorem right_names {s : Sh} (h : rightS s = true) (hk : s.kind ≠ 6) : s.names = [] := by
  obtain ⟨k, ns, l⟩ := s
  simp only [rightS, Bool.and_eq_true, Bool.or_eq_true, decide_eq_true_eq] at h
  simp only [Sh.kind] at hk
  simpa [Sh.names, hk] using h.1
theorem right_low {s : Sh} (h : rightS s = true) (hk : s.kind ≤ 5) : s.kids = [] := by
  have h1 := (right_kind h).1
  obtain ⟨k, ns, l⟩ := s
  simp only [Sh.kind] at hk h1
  simp only [rightS, Bool.and_eq_true] at h
  obtain ⟨_, _, h⟩ := h
  rw [if_pos ⟨h1, hk⟩] at h
  simpa [Sh.kids] using h
theorem right_rec {s : Sh} (h : rightS s = true) (hk : s.kind = 6) : s.kids.length = s.names.length ∧ s.names.all nameB = true ∧ risingB s.names = true := by
  obtain ⟨k, ns, l⟩ := s
  simp only [Sh.kind] at hk
  subst hk
  simp only [rightS, Bool.and_eq_true, decide_eq_true_eq] at h
  obtain ⟨_, _, h⟩ := h
  simp at h
  exact ⟨h.2.1, by simpa [Sh.names] using h.1, h.2.2⟩
theorem right_fun {s : Sh} (h : rightS s = true) (hk : s.kind = 7) : 0 < s.kids.length := by
  obtain ⟨k, ns, l⟩ := s
  simp only [Sh.kind] at hk
  subst hk
  simp only [rightS, Bool.and_eq_true, decide_eq_true_eq] at h
  obtain ⟨_, _, h⟩ := h
  simpa [Sh.kids, List.length_pos_iff] using h
theorem right_or {s : Sh} (h : rightS s = true) (hk : s.kind = 8) : 1 < s.kids.length ∧ s.kids.any partedK = false ∧ risingB (s.kids.map txt) = true := by
  obtain ⟨k, ns, l⟩ := s
  simp only [Sh.kind] at hk
  subst hk
  simp only [rightS, Bool.and_eq_true, decide_eq_true_eq] at h
  obtain ⟨_, _, h⟩ := h
  simp at h
  exact ⟨h.1, by simpa [Sh.kids] using h.2.1, h.2.2⟩

/-! ### Pairs -/
structure Pr where
  w : ByteArray
  a : Sh
  b : Sh
  lack : Bool
def lackPs (a : Sh) : List ByteArray → List Pr
  | [] => []
  | n :: r => (match idxO a.names n with | some _ => [] | none => [⟨n, sh0, sh0, true⟩]) ++ lackPs a r
def havePs (a : Sh) : List ByteArray → List Sh → List Pr
  | n :: ns, k :: ks => (match idxO a.names n with | some j => [⟨n, kid a j, k, false⟩] | none => []) ++ havePs a ns ks
  | _, _ => []
/-- A number's digits. -/
def decF : Nat → Nat → List UInt8
  | 0, n => [UInt8.ofNat (48 + n)]
  | f + 1, n => if n < 10 then [UInt8.ofNat (48 + n)] else decF f (n / 10) ++ [UInt8.ofNat (48 + n % 10)]
def decB (n : Nat) : ByteArray := bA (decF 3 n)
def argB (n : Nat) : ByteArray := bA ([97, 114, 103, 117, 109, 101, 110, 116, 32] ++ sB (decB n))
def resB : ByteArray := ⟨#[114, 101, 115, 117, 108, 116]⟩
def sigPs (a b : Sh) : List Pr := ((List.range (a.kids.length - 1)).map fun i => Pr.mk (argB (i + 1)) (kid b i) (kid a i) false) ++ [⟨resB, kid a (a.kids.length - 1), kid b (a.kids.length - 1), false⟩]
def innerPs (a b : Sh) : Option (List Pr) := if a.kind = 6 then some (lackPs a b.names ++ havePs a b.names b.kids) else if a.kids.length = b.kids.length then some (sigPs a b) else none

def fitsN : Nat → Sh → Sh → Bool
  | 0, _, _ => true
  | N + 1, a, b =>
    if a.kind = 1 ∨ b.kind = 1 then true
    else if a.kind = 8 then a.kids.all fun k => fitsN N k b
    else if b.kind = 8 then b.kids.any fun k => fitsN N a k
    else if a.kind ≠ b.kind ∨ a.kind < 6 then decide (a.kind = b.kind)
    else match innerPs a b with
      | some l => l.all fun p => !p.lack && fitsN N p.a p.b
      | none => false

theorem all_cg {α : Type} {f g : α → Bool} : ∀ {l : List α}, (∀ x ∈ l, f x = g x) → l.all f = l.all g
  | [], _ => rfl
  | x :: r, h => by rw [List.all_cons, List.all_cons, h x (by simp), all_cg fun y hy => h y (by simp [hy])]
theorem any_cg {α : Type} {f g : α → Bool} : ∀ {l : List α}, (∀ x ∈ l, f x = g x) → l.any f = l.any g
  | [], _ => rfl
  | x :: r, h => by rw [List.any_cons, List.any_cons, h x (by simp), any_cg fun y hy => h y (by simp [hy])]

theorem lackPs_mem {a : Sh} : ∀ {l : List ByteArray} {p : Pr}, p ∈ lackPs a l → p.lack = true
  | [], p, h => by simp [lackPs] at h
  | n :: r, p, h => by
    simp only [lackPs, List.mem_append] at h
    rcases h with h | h
    · split at h
      · simp at h
      · simp at h; rw [h]
    · exact lackPs_mem h
theorem havePs_mem {a : Sh} : ∀ {l : List ByteArray} {q : List Sh} {p : Pr}, p ∈ havePs a l q → p.lack = false ∧ (∃ j n, idxO a.names n = some j ∧ p.a = kid a j) ∧ p.b ∈ q
  | [], _, p, h => by simp [havePs] at h
  | _ :: _, [], p, h => by simp [havePs] at h
  | n :: r, k :: q, p, h => by
    simp only [havePs, List.mem_append] at h
    rcases h with h | h
    · split at h
      · rename_i j hj
        simp at h; subst h
        exact ⟨rfl, ⟨j, n, hj, rfl⟩, by simp⟩
      · simp at h
    · obtain ⟨h1, h2, h3⟩ := havePs_mem h
      exact ⟨h1, h2, by simp [h3]⟩

/-- Pairs that are there are smaller, and right. -/
theorem inner_mem {a b : Sh} (ha : rightS a = true) (hb : rightS b = true) (hk : a.kind = b.kind) (h6 : ¬ a.kind < 6) (h8 : a.kind ≠ 8) {l : List Pr} (hl : innerPs a b = some l) {p : Pr} (hp : p ∈ l) (hn : p.lack = false) : sz p.a + sz p.b < sz a + sz b ∧ rightS p.a = true ∧ rightS p.b = true := by
  have hka := right_kind ha
  unfold innerPs at hl
  split at hl
  · rename_i h6
    cases hl
    rcases List.mem_append.1 hp with hp | hp
    · rw [lackPs_mem hp] at hn; cases hn
    · obtain ⟨_, ⟨j, n, hj, he⟩, hq⟩ := havePs_mem hp
      obtain ⟨hjl, _⟩ := idxO_lt hj
      have hjk : j < a.kids.length := by rw [(right_rec ha h6).1]; exact hjl
      rw [he]
      have h1 := kid_lt hjk
      have h2 := sz_kid hq
      exact ⟨by omega, right_kid ha hjk, right_kids hb _ hq⟩
  · rename_i h6'
    split at hl
    · rename_i hlen
      cases hl
      have h7 : a.kind = 7 := by omega
      have h0 := right_fun ha h7
      rcases List.mem_append.1 hp with hp | hp
      · rw [List.mem_map] at hp
        obtain ⟨i, hi, rfl⟩ := hp
        rw [List.mem_range] at hi
        have h1 : i < a.kids.length := by omega
        have h2 : i < b.kids.length := by omega
        have h3 := kid_lt h1
        have h4 := kid_lt h2
        exact ⟨by simp only; omega, right_kid hb h2, right_kid ha h1⟩
      · simp at hp
        subst hp
        have h1 : a.kids.length - 1 < a.kids.length := by omega
        have h2 : a.kids.length - 1 < b.kids.length := by omega
        have h3 := kid_lt h1
        have h4 := kid_lt h2
        exact ⟨by simp only; omega, right_kid ha h1, right_kid hb h2⟩
    · cases hl

theorem fitsN_fuel : ∀ (N M : Nat) (a b : Sh), rightS a = true → rightS b = true → sz a + sz b ≤ N → sz a + sz b ≤ M → fitsN N a b = fitsN M a b := by
  intro N
  induction N with
  | zero => intro M a b _ _ h; have := sz_pos a; omega
  | succ N ih =>
    intro M a b ha hb h1 h2
    cases M with
    | zero => have := sz_pos a; omega
    | succ M =>
      simp only [fitsN]
      by_cases hd : a.kind = 1 ∨ b.kind = 1
      · simp only [if_pos hd]
      simp only [if_neg hd]
      by_cases h8 : a.kind = 8
      · simp only [if_pos h8]
        exact all_cg fun k hk => ih M k b (right_kids ha k hk) hb (by have := sz_kid hk; omega) (by have := sz_kid hk; omega)
      simp only [if_neg h8]
      by_cases h8b : b.kind = 8
      · simp only [if_pos h8b]
        exact any_cg fun k hk => ih M a k ha (right_kids hb k hk) (by have := sz_kid hk; omega) (by have := sz_kid hk; omega)
      simp only [if_neg h8b]
      by_cases hq : a.kind ≠ b.kind ∨ a.kind < 6
      · simp only [if_pos hq]
      simp only [if_neg hq]
      cases hl : innerPs a b with
      | none => rfl
      | some l =>
        refine all_cg fun p hp => ?_
        cases hn : p.lack with
        | true => rfl
        | false =>
          obtain ⟨g1, g2, g3⟩ := inner_mem ha hb (by omega) (by omega) h8 hl hp hn
          rw [ih M p.a p.b g2 g3 (by omega) (by omega)]

def fitsS (a b : Sh) : Bool := fitsN (sz a + sz b) a b
theorem fitsN_eq {N : Nat} {a b : Sh} (ha : rightS a = true) (hb : rightS b = true) (h : sz a + sz b ≤ N) : fitsN N a b = fitsS a b := fitsN_fuel _ _ a b ha hb h (Nat.le_refl _)

theorem fitsS_unf {a b : Sh} (ha : rightS a = true) (hb : rightS b = true) : fitsS a b =
    if a.kind = 1 ∨ b.kind = 1 then true
    else if a.kind = 8 then a.kids.all fun k => fitsS k b
    else if b.kind = 8 then b.kids.any fun k => fitsS a k
    else if a.kind ≠ b.kind ∨ a.kind < 6 then decide (a.kind = b.kind)
    else match innerPs a b with
      | some l => l.all fun p => !p.lack && fitsS p.a p.b
      | none => false := by
  obtain ⟨N, hN⟩ : ∃ N, sz a + sz b = N + 1 := ⟨sz a + sz b - 1, by have := sz_pos a; omega⟩
  rw [fitsS, hN]
  simp only [fitsN]
  by_cases hd : a.kind = 1 ∨ b.kind = 1
  · simp only [if_pos hd]
  simp only [if_neg hd]
  by_cases h8 : a.kind = 8
  · simp only [if_pos h8]
    exact all_cg fun k hk => fitsN_eq (right_kids ha k hk) hb (by have := sz_kid hk; omega)
  simp only [if_neg h8]
  by_cases h8b : b.kind = 8
  · simp only [if_pos h8b]
    exact any_cg fun k hk => fitsN_eq ha (right_kids hb k hk) (by have := sz_kid hk; omega)
  simp only [if_neg h8b]
  by_cases hq : a.kind ≠ b.kind ∨ a.kind < 6
  · simp only [if_pos hq]
  simp only [if_neg hq]
  cases hl : innerPs a b with
  | none => rfl
  | some l =>
    refine all_cg fun p hp => ?_
    cases hn : p.lack with
    | true => rfl
    | false =>
      obtain ⟨g1, g2, g3⟩ := inner_mem ha hb (by omega) (by omega) h8 hl hp hn
      rw [fitsN_eq g2 g3 (by omega)]

/-! ### By kinds -/
section
variable {a b : Sh} (ha : rightS a = true) (hb : rightS b = true)
include ha hb
theorem fit_dyn (h : a.kind = 1 ∨ b.kind = 1) : fitsS a b = true := by rw [fitsS_unf ha hb, if_pos h]
theorem fit_orL (h : ¬ (a.kind = 1 ∨ b.kind = 1)) (h8 : a.kind = 8) : fitsS a b = true ↔ ∀ k ∈ a.kids, fitsS k b = true := by
  rw [fitsS_unf ha hb, if_neg h, if_pos h8, List.all_eq_true]
theorem fit_orR (h : ¬ (a.kind = 1 ∨ b.kind = 1)) (h8 : a.kind ≠ 8) (h9 : b.kind = 8) : fitsS a b = true ↔ ∃ k ∈ b.kids, fitsS a k = true := by
  rw [fitsS_unf ha hb, if_neg h, if_neg h8, if_pos h9, List.any_eq_true]
theorem fit_kind (h : ¬ (a.kind = 1 ∨ b.kind = 1)) (h8 : a.kind ≠ 8) (h9 : b.kind ≠ 8) (hf : fitsS a b = true) : a.kind = b.kind := by
  rw [fitsS_unf ha hb, if_neg h, if_neg h8, if_neg h9] at hf
  by_cases hq : a.kind ≠ b.kind ∨ a.kind < 6
  · rw [if_pos hq] at hf; simpa using hf
  · omega
theorem fit_low (h : ¬ (a.kind = 1 ∨ b.kind = 1)) (hk : a.kind = b.kind) (h6 : a.kind < 6) : fitsS a b = true := by
  rw [fitsS_unf ha hb, if_neg h, if_neg (by omega), if_neg (by omega), if_pos (.inr h6)]; simpa using hk
end

theorem lack_all {a : Sh} {f : Pr → Bool} : ∀ l : List ByteArray, ((lackPs a l).all fun p => !p.lack && f p) = true ↔ ∀ n ∈ l, ∃ j, idxO a.names n = some j
  | [] => by simp [lackPs]
  | n :: r => by
    have := lack_all (f := f) (a := a) r
    simp only [lackPs, List.all_append, Bool.and_eq_true, this, List.mem_cons, forall_eq_or_imp]
    cases hq : idxO a.names n with
    | none => simp
    | some j => simp
theorem have_all {a : Sh} {f : Sh → Sh → Bool} : ∀ (l : List ByteArray) (q : List Sh), ((havePs a l q).all fun p => !p.lack && f p.a p.b) = true ↔ ∀ (i : Nat) n k j, l[i]? = some n → q[i]? = some k → idxO a.names n = some j → f (kid a j) k = true
  | [], q => by simp [havePs]
  | _ :: _, [] => by simp [havePs]
  | n :: r, k :: q => by
    have ih := have_all (f := f) (a := a) r q
    simp only [havePs, List.all_append, Bool.and_eq_true, ih]
    constructor
    · rintro ⟨h1, h2⟩ i m x j hm hx hj
      cases i with
      | zero =>
        simp at hm hx
        subst hm; subst hx
        rw [hj] at h1
        simpa using h1
      | succ i => exact h2 i m x j (by simpa using hm) (by simpa using hx) hj
    · intro h
      refine ⟨?_, fun i m x j hm hx hj => h (i + 1) m x j (by simpa using hm) (by simpa using hx) hj⟩
      cases hq : idxO a.names n with
      | none => simp
      | some j => simpa using h 0 n k j rfl rfl hq

theorem fit_rec {a b : Sh} (ha : rightS a = true) (hb : rightS b = true) (h6 : a.kind = 6) (h6b : b.kind = 6) : fitsS a b = true ↔ ∀ (i : Nat) (h : i < b.names.length), ∃ j, idxO a.names b.names[i] = some j ∧ fitsS (kid a j) (kid b i) = true := by
  have hl := (right_rec hb h6b).1
  rw [fitsS_unf ha hb, if_neg (by omega), if_neg (by omega), if_neg (by omega), if_neg (by omega)]
  simp only [innerPs, if_pos h6, List.all_append, Bool.and_eq_true]
  rw [lack_all (f := fun p => fitsS p.a p.b), have_all]
  constructor
  · rintro ⟨h1, h2⟩ i hi
    obtain ⟨j, hj⟩ := h1 _ (List.getElem_mem hi)
    exact ⟨j, hj, h2 i _ _ j (List.getElem?_eq_getElem hi) (by rw [kid_eq (by omega)]; exact List.getElem?_eq_getElem (by omega)) hj⟩
  · intro h
    refine ⟨fun n hn => ?_, fun i n k j hn hk hj => ?_⟩
    · obtain ⟨i, hi, rfl⟩ := List.mem_iff_getElem.1 hn
      obtain ⟨j, hj, _⟩ := h i hi
      exact ⟨j, hj⟩
    · obtain ⟨hi, rfl⟩ := List.getElem?_eq_some_iff.1 hn
      obtain ⟨hi2, rfl⟩ := List.getElem?_eq_some_iff.1 hk
      obtain ⟨j', hj', hf⟩ := h i hi
      rw [hj] at hj'
      cases hj'
      rwa [kid_eq hi2] at hf

theorem fit_fun {a b : Sh} (ha : rightS a = true) (hb : rightS b = true) (h7 : a.kind = 7) (h7b : b.kind = 7) : fitsS a b = true ↔ a.kids.length = b.kids.length ∧ (∀ i, i + 1 < a.kids.length → fitsS (kid b i) (kid a i) = true) ∧ fitsS (kid a (a.kids.length - 1)) (kid b (a.kids.length - 1)) = true := by
  rw [fitsS_unf ha hb, if_neg (by omega), if_neg (by omega), if_neg (by omega), if_neg (by omega)]
  have h0 := right_fun ha h7
  simp only [innerPs, if_neg (show ¬ a.kind = 6 by omega)]
  by_cases hl : a.kids.length = b.kids.length
  · rw [if_pos hl]
    simp only [sigPs, List.all_append, Bool.and_eq_true, List.all_eq_true, List.mem_map, List.mem_range, hl]
    constructor
    · rintro ⟨h1, h2⟩
      refine ⟨trivial, fun i hi => ?_, ?_⟩
      · have := h1 _ ⟨i, by omega, rfl⟩
        simpa using this
      · have := h2 _ (List.mem_singleton.2 rfl)
        simpa using this
    · rintro ⟨_, h1, h2⟩
      refine ⟨?_, ?_⟩
      · rintro p ⟨i, hi, rfl⟩
        simpa using h1 i (by omega)
      · intro p hp
        rw [List.mem_singleton] at hp
        subst hp
        simpa using h2
  · rw [if_neg hl]
    simp [hl]

/-! ### Nothing is anything -/
mutual
def staticS : Sh → Bool
  | .mk k _ l => staticSs l && decide (k ≠ 1)
def staticSs : List Sh → Bool
  | [] => true
  | n :: r => staticS n && staticSs r
end
end Go.Proofs.Ythlebppdhipanaa

/-
  Is a shape good; its text.
-/
namespace Go.Proofs.Ythlebppdhipanaa
open Go.Ev
open Go.Aw (tiOf fieldsOf sB)

@[simp] theorem uk3 : ukOf Try.prog 3 = .oth := by kernel_rfl
@[simp] theorem uk4 : ukOf Try.prog 4 = .bool := by kernel_rfl
@[simp] theorem uk5 : ukOf Try.prog 5 = .oth := by kernel_rfl
@[simp] theorem uk9 : ukOf Try.prog 9 = .oth := by kernel_rfl
@[simp] theorem uk25 : ukOf Try.prog 25 = .oth := by kernel_rfl

/-! ### Tables on shapes -/
noncomputable def shT (q : Sh → Prop) (r : Sh → D) : List D → Option (Prop × D) := ctr (fun n : Sh => [.agg (rowS n)]) q r
theorem shT_eq (q : Sh → Prop) (r : Sh → D) (n : Sh) : shT q r [.agg (rowS n)] = some (q n, r n) := ctr_enc (fun a b h => by simp at h; exact rowS_inj _ _ h) n
theorem shT_ok {g : FuncId} {q : Sh → Prop} {r : Sh → D} (h : ∀ n, q n → FnO Try.prog g [.agg (rowS n)] (.ret (r n))) (hb : ∀ n, D.bel 0 (r n) = true) : ∀ xs p d, shT q r xs = some (p, d) → p → FnO Try.prog g xs (.ret d) ∧ D.belL 0 xs = true ∧ D.bel 0 d = true :=
  ctr_ok fun n hn => ⟨h n hn, by simp, hb n⟩
noncomputable def shIT (q : Sh → Int → Prop) (r : Sh → Int → D) : List D → Option (Prop × D) := ctr (fun p : Sh × Int => [.agg (rowS p.1), .lit (.int .i64 p.2)]) (fun p => q p.1 p.2) (fun p => r p.1 p.2)
theorem shIT_eq (q : Sh → Int → Prop) (r : Sh → Int → D) (n : Sh) (i : Int) : shIT q r [.agg (rowS n), .lit (.int .i64 i)] = some (q n i, r n i) := ctr_enc (fun a b h => by simp at h; exact Prod.ext (rowS_inj _ _ h.1) h.2) (n, i)
theorem shIT_ok {g : FuncId} {q : Sh → Int → Prop} {r : Sh → Int → D} (h : ∀ n i, q n i → FnO Try.prog g [.agg (rowS n), .lit (.int .i64 i)] (.ret (r n i))) (hb : ∀ n i, D.bel 0 (r n i) = true) : ∀ xs p d, shIT q r xs = some (p, d) → p → FnO Try.prog g xs (.ret d) ∧ D.belL 0 xs = true ∧ D.bel 0 d = true :=
  ctr_ok fun p hp => ⟨h p.1 p.2 hp, by simp, hb p.1 p.2⟩
noncomputable def sh2T (q : Sh → Sh → Prop) (r : Sh → Sh → D) : List D → Option (Prop × D) := ctr (fun p : Sh × Sh => [.agg (rowS p.1), .agg (rowS p.2)]) (fun p => q p.1 p.2) (fun p => r p.1 p.2)
theorem sh2T_eq (q : Sh → Sh → Prop) (r : Sh → Sh → D) (n m : Sh) : sh2T q r [.agg (rowS n), .agg (rowS m)] = some (q n m, r n m) := ctr_enc (fun a b h => by simp at h; exact Prod.ext (rowS_inj _ _ h.1) (rowS_inj _ _ h.2)) (n, m)
theorem sh2T_ok {g : FuncId} {q : Sh → Sh → Prop} {r : Sh → Sh → D} (h : ∀ n m, q n m → FnO Try.prog g [.agg (rowS n), .agg (rowS m)] (.ret (r n m))) (hb : ∀ n m, D.bel 0 (r n m) = true) : ∀ xs p d, sh2T q r xs = some (p, d) → p → FnO Try.prog g xs (.ret d) ∧ D.belL 0 xs = true ∧ D.bel 0 d = true :=
  ctr_ok fun p hp => ⟨h p.1 p.2 hp, by simp, hb p.1 p.2⟩

def goodS (s : Sh) : Bool := decide (sz s ≤ 512) && rightS s
def limP (s : Sh) : Prop := limS s = true ∧ sz s ≤ 1000000
def tbool (f : Sh → Bool) (n : Sh) : D := .lit (.bool (f n))
def fewS (s : Sh) : Bool := decide (sz s ≤ 512)
theorem few_ok' (n : Sh) (h : limP n) : FnO Try.prog 65 [.agg (rowS n)] (.ret (tbool fewS n)) := few_ok n h.2
theorem right_ok' (n : Sh) (h : limP n) : FnO Try.prog 66 [.agg (rowS n)] (.ret (tbool rightS n)) := right_ok n h.1 h.2
theorem tbool_bel (f : Sh → Bool) (n : Sh) : D.bel 0 (tbool f n) = true := by simp [tbool]

set_option maxRecDepth 10000 in
theorem good_ok (s : Sh) (h : limP s) : FnO Try.prog 39 [.agg (rowS s)] (.ret (tbool goodS s)) := by
  have ht := tbC_ok (shT_ok few_ok' (tbool_bel _)) (tbC_ok (shT_ok right_ok' (tbool_bel _)) (tb0_ok _))
  refine fnO_wp ht fol Try.func39 rfl (by kernel_rfl) (by simp [Try.ntmps39]) (by kernel_rfl) fun I => ?_
  cases hF : fewS s with
  | true =>
    simp -implicitDefEqProofs [Try.ntmps39, shT_eq, tbool, hF, h]
    exact seals_bool (by simp only [goodS]; simp only [fewS] at hF; simp [hF])
  | false =>
    simp -implicitDefEqProofs [Try.ntmps39, shT_eq, tbool, hF, h]
    exact seals_bool (by simp only [goodS]; simp only [fewS] at hF; simp [hF])

def textG (s : Sh) : ByteArray := if goodS s then txt s else ⟨#[]⟩
theorem textP_ok (n : Sh) (h : limP n ∧ rightS n = true) : FnO Try.prog 46 [.agg (rowS n)] (.ret (.lit (.string (txt n)))) := text_ok n (right_okT n h.1.1 h.2) h.1.2

end Go.Proofs.Ythlebppdhipanaa
