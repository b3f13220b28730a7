/-
  Anything in the place of a part: what comes of it fits as well.
-/
import Derived.Test.YthlebppdhipanaaShV
set_option linter.all false
namespace Go.Proofs.Ythlebppdhipanaa
open Go.Ev
open Go.Aw (tiOf fieldsOf sB)

def dynS : Sh := .mk 1 [] []
mutual
def looseS : Sh → Int → Sh × Int
  | .mk k ns l, n => if n = 0 then (dynS, -1) else if k = 8 then (.mk k ns l, n - 1) else (.mk k ns (looseSs l (n - 1)).1, (looseSs l (n - 1)).2)
def looseSs : List Sh → Int → List Sh × Int
  | [], n => ([], n)
  | x :: r, n => if 0 ≤ n then ((looseS x n).1 :: (looseSs r (looseS x n).2).1, (looseSs r (looseS x n).2).2) else (x :: r, n)
end

inductive Lo : Sh → Sh → Prop
  | dyn (s : Sh) : Lo s dynS
  | same (s : Sh) : Lo s s
  | kids (k : Int) (ns : List ByteArray) (l l' : List Sh) (hk : k ≠ 8) (hl : l'.length = l.length) (h : ∀ (i : Nat) (h : i < l.length) (h' : i < l'.length), Lo l[i] l'[i]) : Lo (.mk k ns l) (.mk k ns l')

theorem looseSs_len : ∀ (l : List Sh) (n : Int), (looseSs l n).1.length = l.length
  | [], n => by simp [looseSs]
  | x :: r, n => by
    simp only [looseSs]
    split
    · simp [looseSs_len r]
    · rfl

mutual
theorem lo_loose : ∀ (s : Sh) (n : Int), Lo s (looseS s n).1
  | .mk k ns l, n => by
    simp only [looseS]
    split
    · exact .dyn _
    · split
      · exact .same _
      · rename_i hk
        exact .kids k ns l _ hk (looseSs_len l _) fun i h h' => lo_looses l (n - 1) i h h'
theorem lo_looses : ∀ (l : List Sh) (n : Int) (i : Nat) (h : i < l.length) (h' : i < (looseSs l n).1.length), Lo l[i] (looseSs l n).1[i]
  | [], n, i, h, _ => by simp at h
  | x :: r, n, i, h, h' => by
    by_cases hn : 0 ≤ n
    · have e : (looseSs (x :: r) n).1 = (looseS x n).1 :: (looseSs r (looseS x n).2).1 := by simp [looseSs, hn]
      simp only [e]
      cases i with
      | zero => exact lo_loose x n
      | succ i => exact lo_looses r _ i (by simpa using h) (by rw [looseSs_len]; simpa using h)
    · have e : (looseSs (x :: r) n).1 = x :: r := by simp [looseSs, hn]
      simp only [e]
      exact .same _
end

/-! ### What stays so -/
theorem szs_le : ∀ (l l' : List Sh), l'.length = l.length → (∀ (i : Nat) (h : i < l.length) (h' : i < l'.length), sz l'[i] ≤ sz l[i]) → szs l' ≤ szs l
  | [], [], _, _ => Nat.le_refl _
  | x :: r, y :: q, hl, h => by
    have h0 := h 0 (by simp) (by simp)
    have ih := szs_le r q (by simpa using hl) fun i h1 h2 => h (i + 1) (by simpa using h1) (by simpa using h2)
    simp only [List.getElem_cons_zero, sz, szs, partsLs, List.length_append] at *
    omega
theorem lo_sz {s s' : Sh} (h : Lo s s') : sz s' ≤ sz s := by
  induction h with
  | dyn s => have := sz_pos s; show 1 ≤ sz s; omega
  | same s => exact Nat.le_refl _
  | kids k ns l l' hk hl h ih =>
    have := szs_le l l' hl ih
    rw [sz_eq, sz_eq]
    exact Nat.succ_le_succ this
theorem lo_right {s s' : Sh} (h : Lo s s') : rightS s = true → rightS s' = true := by
  induction h with
  | dyn s => intro _; rfl
  | same s => exact id
  | kids k ns l l' hk hl h ih =>
    intro hr
    have hrk : rightSs l' = true := rightSs_all fun x hx => by
      obtain ⟨j, hj, rfl⟩ := List.mem_iff_getElem.1 hx
      have hj2 : j < l.length := by omega
      exact ih j hj2 hj (right_kids hr _ (List.getElem_mem hj2))
    simp only [rightS, Bool.and_eq_true] at hr ⊢
    refine ⟨hr.1, hrk, ?_⟩
    have h2 := hr.2.2
    rw [hl]
    by_cases h15 : 1 ≤ k ∧ k ≤ 5
    · rw [if_pos h15] at h2 ⊢; exact h2
    · rw [if_neg h15] at h2 ⊢
      by_cases h6 : k = 6
      · rw [if_pos h6] at h2 ⊢; exact h2
      · rw [if_neg h6] at h2 ⊢
        by_cases h7 : k = 7
        · rw [if_pos h7] at h2 ⊢; exact h2
        · rw [if_neg h7, if_neg hk] at h2; cases h2
theorem limSs_all : ∀ {l : List Sh}, (∀ x ∈ l, limS x = true) → limSs l = true
  | [], _ => rfl
  | n :: r, h => by
    simp only [limSs, Bool.and_eq_true]
    exact ⟨h n (by simp), limSs_all fun x hx => h x (by simp [hx])⟩
theorem lo_lim {s s' : Sh} (h : Lo s s') : limS s = true → limS s' = true := by
  induction h with
  | dyn s => intro _; rfl
  | same s => exact id
  | kids k ns l l' hk hl h ih =>
    intro hr
    simp only [limS, Bool.and_eq_true] at hr ⊢
    refine ⟨hr.1, hr.2.1, by rw [hl]; exact hr.2.2.1, limSs_all fun x hx => ?_⟩
    obtain ⟨j, hj, rfl⟩ := List.mem_iff_getElem.1 hx
    have hj2 : j < l.length := by omega
    exact ih j hj2 hj (limSs_mem hr.2.2.2 _ (List.getElem_mem hj2))
theorem lo_limP {s s' : Sh} (h : Lo s s') (hp : limP s) : limP s' := ⟨lo_lim h hp.1, by have := lo_sz h; have := hp.2; omega⟩
theorem lo_good {s s' : Sh} (h : Lo s s') (hp : goodS s = true) : goodS s' = true := by
  simp only [goodS, Bool.and_eq_true, decide_eq_true_eq] at hp ⊢
  exact ⟨by have := lo_sz h; omega, lo_right h hp.2⟩

theorem lo_fits : ∀ (N : Nat) (a a' b : Sh), sz a + sz b ≤ N → Lo a a' → rightS a = true → rightS b = true → (fitsS a b = true → fitsS a' b = true) ∧ (fitsS b a = true → fitsS b a' = true) := by
  intro N
  induction N with
  | zero => intro a a' b h; have := sz_pos a; omega
  | succ N ih =>
    intro a a' b hs hlo ha hb
    have ha' := lo_right hlo ha
    cases hlo with
    | dyn => exact ⟨fun _ => fit_dyn ha' hb (.inl rfl), fun _ => fit_dyn hb ha' (.inr rfl)⟩
    | same => exact ⟨id, id⟩
    | kids k ns l l' hk hl h =>
      obtain ⟨A, hA⟩ : ∃ A, A = Sh.mk k ns l := ⟨_, rfl⟩
      obtain ⟨A', hA'⟩ : ∃ A', A' = Sh.mk k ns l' := ⟨_, rfl⟩
      have ek : A'.kind = A.kind := by rw [hA, hA']; rfl
      have en : A'.names = A.names := by rw [hA, hA']; rfl
      have el : A'.kids.length = A.kids.length := by rw [hA, hA']; exact hl
      have h8 : A.kind ≠ 8 := by rw [hA]; exact hk
      have hkid : ∀ i, i < A.kids.length → Lo (kid A i) (kid A' i) := fun i hi => by
        have h1 : i < l.length := by rw [hA] at hi; exact hi
        have h2 : i < l'.length := by omega
        rw [kid_eq hi, kid_eq (by omega)]
        simp only [hA, hA', Sh.kids]
        exact h i h1 h2
      rw [← hA] at ha hs ⊢
      rw [← hA'] at ha' ⊢
      clear h
      have hka := right_kind ha
      constructor
      · intro hf
        by_cases hd : A.kind = 1 ∨ b.kind = 1
        · exact fit_dyn ha' hb (by rw [ek]; exact hd)
        by_cases b8 : b.kind = 8
        · rw [fit_orR ha hb hd h8 b8] at hf
          rw [fit_orR ha' hb (by rw [ek]; exact hd) (by rw [ek]; exact h8) b8]
          obtain ⟨y, hy, hf⟩ := hf
          exact ⟨y, hy, (ih A A' y (by have := sz_kid hy; omega) (by rw [hA, hA']; exact .kids k ns l l' hk hl (by
            intro i h1 h2
            have := hkid i (by rw [hA]; exact h1)
            rw [kid_eq (by rw [hA]; exact h1), kid_eq (by rw [hA']; exact h2)] at this
            simpa only [hA, hA', Sh.kids] using this)) ha (right_kids hb y hy)).1 hf⟩
        have kab := fit_kind ha hb hd h8 b8 hf
        by_cases a6 : A.kind < 6
        · exact fit_low ha' hb (by rw [ek]; exact hd) (by rw [ek]; exact kab) (by rw [ek]; exact a6)
        by_cases a6 : A.kind = 6
        · have la := (right_rec ha a6).1
          have lb := (right_rec hb (by omega)).1
          rw [fit_rec ha' hb (by omega) (by omega)]
          rw [fit_rec ha hb a6 (by omega)] at hf
          intro i hi
          obtain ⟨j, hj, hg⟩ := hf i hi
          obtain ⟨hjl, _⟩ := idxO_lt hj
          have i1 : j < A.kids.length := by omega
          have i2 : i < b.kids.length := by omega
          exact ⟨j, by rw [en]; exact hj, (ih _ _ _ (by have := kid_lt i1; have := kid_lt i2; omega) (hkid j i1) (right_kid ha i1) (right_kid hb i2)).1 hg⟩
        · have a7 : A.kind = 7 := by omega
          have h0 := right_fun ha a7
          rw [fit_fun ha' hb (by omega) (by omega)]
          rw [fit_fun ha hb a7 (by omega)] at hf
          rw [el]
          refine ⟨hf.1, fun i hi => ?_, ?_⟩
          · have i1 : i < A.kids.length := by omega
            have i2 : i < b.kids.length := by omega
            exact (ih _ _ _ (by have := kid_lt i1; have := kid_lt i2; omega) (hkid i i1) (right_kid ha i1) (right_kid hb i2)).2 (hf.2.1 i hi)
          · have i1 : A.kids.length - 1 < A.kids.length := by omega
            have i2 : A.kids.length - 1 < b.kids.length := by omega
            exact (ih _ _ _ (by have := kid_lt i1; have := kid_lt i2; omega) (hkid _ i1) (right_kid ha i1) (right_kid hb i2)).1 hf.2.2
      · intro hf
        by_cases hd : b.kind = 1 ∨ A.kind = 1
        · exact fit_dyn hb ha' (by rw [ek]; exact hd)
        by_cases b8 : b.kind = 8
        · rw [fit_orL hb ha hd b8] at hf
          rw [fit_orL hb ha' (by rw [ek]; exact hd) b8]
          intro y hy
          exact (ih A A' y (by have := sz_kid hy; omega) (by rw [hA, hA']; exact .kids k ns l l' hk hl (by
            intro i h1 h2
            have := hkid i (by rw [hA]; exact h1)
            rw [kid_eq (by rw [hA]; exact h1), kid_eq (by rw [hA']; exact h2)] at this
            simpa only [hA, hA', Sh.kids] using this)) ha (right_kids hb y hy)).2 (hf y hy)
        have kab := fit_kind hb ha hd b8 h8 hf
        by_cases a6 : b.kind < 6
        · exact fit_low hb ha' (by rw [ek]; exact hd) (by rw [ek]; exact kab) a6
        by_cases a6 : A.kind = 6
        · have la := (right_rec ha a6).1
          have lb := (right_rec hb (by omega)).1
          rw [fit_rec hb ha' (by omega) (by omega)]
          rw [fit_rec hb ha (by omega) a6] at hf
          intro i hi
          rw [en] at hi
          obtain ⟨j, hj, hg⟩ := hf i hi
          obtain ⟨hjl, _⟩ := idxO_lt hj
          have i1 : i < A.kids.length := by omega
          have i2 : j < b.kids.length := by omega
          refine ⟨j, ?_, (ih _ _ _ (by have := kid_lt i1; have := kid_lt i2; omega) (hkid i i1) (right_kid ha i1) (right_kid hb i2)).2 hg⟩
          simp only [en]
          exact hj
        · have a7 : A.kind = 7 := by omega
          have h0 := right_fun ha a7
          rw [fit_fun hb ha' (by omega) (by omega)]
          rw [fit_fun hb ha (by omega) a7] at hf
          have hlb := hf.1
          refine ⟨by omega, fun i hi => ?_, ?_⟩
          · have i1 : i < A.kids.length := by omega
            have i2 : i < b.kids.length := by omega
            exact (ih _ _ _ (by have := kid_lt i1; have := kid_lt i2; omega) (hkid i i1) (right_kid ha i1) (right_kid hb i2)).1 (hf.2.1 i hi)
          · have i1 : b.kids.length - 1 < A.kids.length := by omega
            have i2 : b.kids.length - 1 < b.kids.length := by omega
            exact (ih _ _ _ (by have := kid_lt i1; have := kid_lt i2; omega) (hkid _ i1) (right_kid ha i1) (right_kid hb i2)).2 hf.2.2
end Go.Proofs.Ythlebppdhipanaa

/-
  A shape with anything in the place of a part: the walk.
-/
namespace Go.Proofs.Ythlebppdhipanaa
open Go.Ev
open Go.Aw (tiOf fieldsOf sB)
@[simp] theorem ti30 : tiOf Try.prog 30 = some ⟨1, 8, (.int .u64), [(.zn .u64)]⟩ := by kernel_rfl

theorem looseSs_snoc : ∀ (l : List Sh) (x : Sh) (n : Int), looseSs (l ++ [x]) n = if 0 ≤ (looseSs l n).2 then ((looseSs l n).1 ++ [(looseS x (looseSs l n).2).1], (looseS x (looseSs l n).2).2) else ((looseSs l n).1 ++ [x], (looseSs l n).2)
  | [], x, n => by
    by_cases hn : 0 ≤ n
    · simp [looseSs, hn]
    · simp [looseSs, hn]
  | y :: r, x, n => by
    by_cases hn : 0 ≤ n
    · have := looseSs_snoc r x (looseS y n).2
      simp only [List.cons_append, looseSs, if_pos hn, this]
      split <;> simp
    · simp [looseSs, hn]
mutual
theorem loose_le : ∀ (s : Sh) (n : Int), 0 ≤ n → -1 ≤ (looseS s n).2 ∧ (looseS s n).2 ≤ n
  | .mk k ns l, n, hn => by
    simp only [looseS]
    split
    · simp only; omega
    · split
      · simp only; omega
      · have := looses_le l (n - 1) (by omega)
        simp only; omega
theorem looses_le : ∀ (l : List Sh) (n : Int), -1 ≤ n → -1 ≤ (looseSs l n).2 ∧ (looseSs l n).2 ≤ n
  | [], n, hn => by simp only [looseSs]; omega
  | x :: r, n, hn => by
    by_cases h0 : 0 ≤ n
    · have h1 := loose_le x n h0
      have h2 := looses_le r (looseS x n).2 h1.1
      simp only [looseSs, if_pos h0]
      omega
    · simp only [looseSs, if_neg h0]; omega
end

/-- The cells of some. -/
def flatS (l : List Sh) : List D := (rowsS l).flatten
theorem flatten_len {sz : Nat} : ∀ (rows : List (List D)), (∀ r ∈ rows, r.length = sz) → rows.flatten.length = rows.length * sz
  | [], _ => by simp
  | r :: rs, h => by
    rw [List.flatten_cons, List.length_append, h r (by simp), flatten_len rs (fun q hq => h q (by simp [hq])), List.length_cons, Nat.add_mul]
    omega
@[simp] theorem flatS_length (l : List Sh) : (flatS l).length = l.length * 3 := by
  unfold flatS
  rw [flatten_len (sz := 3) _ (rowsS_rows _), rowsS_length]
@[simp] theorem flatS_bel (l : List Sh) : D.belL 0 (flatS l) = true := belL_flatten _ fun r hr => by
  rw [rowsS_map, List.mem_map] at hr
  obtain ⟨n, _, rfl⟩ := hr
  simp
@[simp] theorem flatS_belU (n : Nat) (l : List Sh) : D.belL n (flatS l) = true := belL_up n _ (flatS_bel l)
@[simp] theorem flatS_ren (f : Nat → Nat) (l : List Sh) : D.renL f (flatS l) = flatS l := renL_free f _ (flatS_bel l)
theorem flatS_append (a b : List Sh) : flatS (a ++ b) = flatS a ++ flatS b := by simp [flatS, rowsS_append]
theorem flatS_one (x : Sh) : flatS [x] = rowS x := by simp [flatS, rowsS]

noncomputable def loT (q : Sh → Int → Prop) : List D → Option (Prop × D) := shIT q (fun x n => .tup [.agg (rowS (looseS x n).1), .lit (.int .i64 (looseS x n).2)])
theorem loT_eq (q : Sh → Int → Prop) (x : Sh) (n : Int) : loT q [.agg (rowS x), .lit (.int .i64 n)] = some (q x n, .tup [.agg (rowS (looseS x n).1), .lit (.int .i64 (looseS x n).2)]) := shIT_eq _ _ x n

theorem plain_ok (k : Int) : FnO Try.prog 23 [.lit (.int .i64 k)] (.ret (.agg (rowS (.mk k [] [])))) := by
  refine fnO_wx (tb0_ok _) fol Try.func23 rfl (by kernel_rfl) (by simp [Try.ntmps23]) (by kernel_rfl) fun I => ?_
  simp -implicitDefEqProofs [Try.ntmps23]
  simp only [rowS, rowsS]
  refine seals_agg ?_
  repeat' first | exact .same _ (by simp) | exact .nil _ _ | exact sealsL_nil | refine sealsL_cons ?_ ?_
noncomputable def plT : List D → Option (Prop × D) := ctr (fun k : Int => [.lit (.int .i64 k)]) (fun _ => True) (fun k => .agg (rowS (.mk k [] [])))
theorem plT_eq (k : Int) : plT [.lit (.int .i64 k)] = some (True, .agg (rowS (.mk k [] []))) := ctr_enc (fun a b h => by simpa using h) k

def loF (k : Int) (ns : List ByteArray) (l : List Sh) (n1 : Int) : Nat → S
  | 0 => S.mk 50 [(1, .lit (.int .i64 n1)), (2, .pt 0 0), (4, .pt 1 0), (5, .lit (.int .i64 0)), (6, .pt 2 0), (26, .sq false 3 (rowsS l)), (27, .lit (.int .i64 l.length)), (28, .lit (.int .i64 0))]
    [(0, .cells 25 none [.lit (.int .i64 k), .sq false 1 (strsD ns), .sq false 3 (rowsS l)]), (1, .cells 25 none zrow), (2, .cells 25 none [.lit (.int .i64 k), .sq false 1 (strsD ns), .lit (.slice none 0 0)])] 3 [] none []
  | i + 1 => S.mk 50 [(1, .lit (.int .i64 (looseSs (l.take (i + 1)) n1).2)), (2, .pt 0 0), (4, .pt 1 0), (5, .lit (.int .i64 0)), (6, .pt 2 0), (26, .sq false 3 (rowsS l)), (27, .lit (.int .i64 l.length)), (28, .lit (.int .i64 (i + 1 : Nat)))]
    [(0, .cells 25 none [.lit (.int .i64 k), .sq false 1 (strsD ns), .sq false 3 (rowsS l)]), (1, .cells 25 none zrow), (2, .cells 25 none [.lit (.int .i64 k), .sq false 1 (strsD ns), .ow 3 (i + 1)]), (3, .cells 25 (some 3) (flatS (looseSs (l.take (i + 1)) n1).1))] 4 [] none []

set_option maxHeartbeats 4000000 in
set_option maxRecDepth 20000 in
theorem loose_ok : ∀ (s : Sh) (n : Int), limP s → 0 ≤ n → n ≤ 1000 → FnO Try.prog 15 [.agg (rowS s), .lit (.int .i64 n)] (.ret (.tup [.agg (rowS (looseS s n).1), .lit (.int .i64 (looseS s n).2)]))
  | .mk k ns l, n, hp, h0, h1 => by
    have hll := (lim_len hp).1
    simp only [Sh.kids] at hll
    have ht := tbC_ok (P := Try.prog) (g := 15) (shIT_ok (q := fun x m => x ∈ l ∧ 0 ≤ m ∧ m ≤ 1000) (r := fun x n => .tup [.agg (rowS (looseS x n).1), .lit (.int .i64 (looseS x n).2)]) (fun x m h => loose_ok x m (limP_kid hp h.1) h.2.1 h.2.2) (by simp)) (tbC_ok (g := 23) (f := plT) (ctr_ok fun k _ => ⟨plain_ok k, by simp, by simp⟩) (tb0_ok _))
    refine fnO_wx ht fol Try.func15 rfl (by kernel_rfl) (by simp [Try.ntmps15]) (by kernel_rfl) fun I => ?_
    by_cases hn0 : n = 0
    · subst hn0
      simp -implicitDefEqProofs [Try.ntmps15, rowS, plT_eq]
      simp only [looseS, dynS, if_true, rowS]
      exact .same _ (by simp)
    have hn0b : (n == 0) = false := by simpa using hn0
    have hw1 : IntKind.i64.wrap (n - 1) = n - 1 := wrap64 (by omega) (by omega)
    by_cases hk8 : k = 8
    · subst hk8
      simp -implicitDefEqProofs [Try.ntmps15, rowS, hn0b, hw1]
      have e : looseS (.mk 8 ns l) n = (.mk 8 ns l, n - 1) := by simp [looseS, hn0]
      rw [e]
      simp only [rowS]
      exact .same _ (by simp)
    have hk8b : (k == 8) = false := by simpa using hk8
    have e : looseS (.mk k ns l) n = (.mk k ns (looseSs l (n - 1)).1, (looseSs l (n - 1)).2) := by simp [looseS, hn0, hk8]
    rw [e]
    simp -implicitDefEqProofs [Try.ntmps15, rowS, hn0b, hk8b, hw1]
    refine w_loop (fun i : { i : Nat // i ≤ l.length } => loF k ns l (n - 1) i.1) (fun i => l.length - i.1) ⟨0, Nat.zero_le _⟩ (le_of [0, 1, 2] (by simp [loF, zrow])) fun ⟨i, hi⟩ => wx_ok ht fol _ _ _ (by kernel_rfl) ?_
    have hb0 := looses_le l (n - 1) (by omega)
    by_cases hil : i < l.length
    · have hq : l[i] ∈ l := List.getElem_mem hil
      have hst : l.take (i + 1) = l.take i ++ [l[i]] := List.take_succ_eq_append_getElem hil
      have hsn := looseSs_snoc (l.take i) l[i] (n - 1)
      rw [← hst] at hsn
      cases i with
      | zero =>
        have h0n : 0 ≤ n - 1 := by omega
        have h1n : n - 1 ≤ 1000 := by omega
        have hsn2 : looseSs (l.take 1) (n - 1) = ([(looseS l[0] (n - 1)).1], (looseS l[0] (n - 1)).2) := by
          have e0 : looseSs (l.take 0) (n - 1) = ([], n - 1) := by simp [looseSs]
          rw [e0] at hsn
          simp only [if_pos h0n, List.nil_append] at hsn
          exact hsn
        have hw11 : IntKind.i64.wrap 1 = 1 := rfl
        have hge : 1 ≤ n := by omega
        simp -implicitDefEqProofs [loF, zrow, hil, shIT_eq, hq, h0n, h1n, hge, hw11]
        refine ⟨1, le_of [0, 1, 2, 7] ?_, by omega, by omega⟩
        simp [hsn2, flatS_one, hw11]
      | succ i =>
        obtain ⟨K, hK⟩ : ∃ K, (looseSs (l.take (i + 1)) (n - 1)).2 = K := ⟨_, rfl⟩
        obtain ⟨outs, hO⟩ : ∃ outs, (looseSs (l.take (i + 1)) (n - 1)).1 = outs := ⟨_, rfl⟩
        have hKb := looses_le (l.take (i + 1)) (n - 1) (by omega)
        rw [hK] at hKb
        have hOl : outs.length = i + 1 := by rw [← hO, looseSs_len]; simp; omega
        rw [hK, hO] at hsn
        have hic : (i : Int) + 1 < (l.length : Int) := by omega
        have hw2 : IntKind.i64.wrap ((i : Int) + 1 + 1) = (i : Int) + 1 + 1 := wrap64 (by omega) (by omega)
        by_cases hK0 : 0 ≤ K
        · rw [if_pos hK0] at hsn
          have hK1 : K ≤ 1000 := by omega
          simp -implicitDefEqProofs [loF, zrow, hil, hic, hw2, hK, hO, hOl, shIT_eq, hq, hK0, hK1]
          refine ⟨by omega, ⟨by omega, by omega⟩, i + 1 + 1, le_of [0, 1, 2, 7] ?_, by omega, by omega⟩
          simp [hsn, flatS_append, flatS_one]
        · rw [if_neg hK0] at hsn
          simp -implicitDefEqProofs [loF, zrow, hil, hic, hw2, hK, hO, hOl, shIT_eq, hq, hK0]
          refine ⟨by omega, ⟨by omega, by omega⟩, i + 1 + 1, le_of [0, 1, 2, 7] ?_, by omega, by omega⟩
          simp [hsn, flatS_append, flatS_one]
    · cases i with
      | zero =>
        have hl0 : l = [] := List.eq_nil_of_length_eq_zero (by omega)
        subst hl0
        simp -implicitDefEqProofs [loF, zrow]
        simp only [looseSs, rowS, rowsS]
        refine seals_tup ?_
        refine sealsL_cons (seals_agg ?_) ?_
        repeat' first | exact .same _ (by simp) | exact .nil _ _ | exact sealsL_nil | refine sealsL_cons ?_ ?_
      | succ i =>
        have hi2 : l.length = i + 1 := by omega
        have hfull : l.take (i + 1) = l := List.take_of_length_le (by omega)
        have hOl : (looseSs l (n - 1)).1.length = i + 1 := by rw [looseSs_len]; exact hi2
        simp -implicitDefEqProofs [loF, zrow, hi2, hfull]
        try simp only [rowS]
        refine seals_tup ?_
        refine sealsL_cons (seals_agg ?_) ?_
        repeat' first | exact .same _ (by simp) | exact sealsL_nil | exact seals_ow (rows := rowsS (looseSs l (n - 1)).1) rfl (by simp [hOl]) (rowsS_rows _) (by simp) | refine sealsL_cons ?_ ?_
termination_by s => SizeOf.sizeOf s
decreasing_by
  have := List.sizeOf_lt_of_mem h.1
  simp
  omega
end Go.Proofs.Ythlebppdhipanaa
