/-
  The document's: what fits what.
-/
import Derived.Test.YthlebppdhipanaaShV
set_option linter.all false
namespace Go.Proofs.Ythlebppdhipanaa
open Go.Ev
open Go.Aw (tiOf fieldsOf sB)

/-! ### A field -/
def fieldD (a : Sh) (n : ByteArray) : D := match idxO a.names n with
  | some j => .tup [.agg (rowS (kid a j)), .lit (.bool true)]
  | none => .tup [.agg zrow, .lit (.bool false)]
theorem idxO_first {ns : List ByteArray} {n : ByteArray} {i : Nat} (h : i < ns.length) (hn : ns[i] = n) (hb : ∀ j (h : j < ns.length), j < i → ¬ ns[j] = n) : idxO ns n = some i := by
  unfold idxO
  rw [List.findIdx?_eq_some_iff_getElem]
  exact ⟨h, by simpa using hn, fun j hj => by simpa using hb j (by omega) hj⟩
theorem idxO_no {ns : List ByteArray} {n : ByteArray} (hb : ∀ j (h : j < ns.length), ¬ ns[j] = n) : idxO ns n = none := by
  unfold idxO
  rw [List.findIdx?_eq_none_iff]
  intro x hx
  obtain ⟨j, hj, rfl⟩ := List.mem_iff_getElem.1 hx
  simpa using hb j hj
set_option maxHeartbeats 1000000 in
set_option maxRecDepth 10000 in
theorem field_ok (a : Sh) (n : ByteArray) (hl : a.names.length ≤ 1000000) (hk : a.names.length ≤ a.kids.length) : FnO Try.prog 71 [.agg (rowS a), .lit (.string n)] (.ret (fieldD a n)) := by
  have ht := tb0_ok Try.prog
  refine fnO_wx ht fol Try.func71 rfl (by kernel_rfl) (by simp [Try.ntmps71]) (by kernel_rfl) fun I => ?_
  simp -implicitDefEqProofs [Try.ntmps71]
  refine w_loop (fun i : { i : Nat // i ≤ a.names.length ∧ ∀ j (h : j < a.names.length), j < i → ¬ a.names[j] = n } => S.mk 27 [(1, .lit (.string n)), (2, .pt 0 0), (4, .pt 1 0), (5, .lit (.bool false)), (6, .lit (.int .i64 i.1))] [(0, .cells 25 none (rowS a)), (1, .cells 25 none [.lit (.int .i64 0), .lit (.slice none 0 0), .lit (.slice none 0 0)])] 2 [] none []) (fun i => a.names.length - i.1) ⟨0, Nat.zero_le _, fun j _ h => by omega⟩ (le_of [0, 1] (by simp)) fun ⟨i, hi, hall⟩ => wx_ok ht fol _ _ _ (by kernel_rfl) ?_
  have hw : IntKind.i64.wrap ((i : Int) + 1) = (i : Int) + 1 := wrap64 (by omega) (by omega)
  by_cases hil : i < a.names.length
  · have hik : i < a.kids.length := by omega
    have hik' : (i : Int) < (a.kids.length : Int) := by omega
    simp -implicitDefEqProofs [hil, hw, hik, hik']
    refine ⟨fun h => ?_, fun h => ⟨i + 1, le_of [0, 1] (by simp), ⟨by omega, fun j hj hlt => ?_⟩, by omega⟩⟩
    · have e : fieldD a n = .tup [.agg (rowS a.kids[i]), .lit (.bool true)] := by
        rw [fieldD, idxO_first hil h hall]; simp only [kid_eq hik]
      rw [e]
      exact .same _ (by simp)
    · by_cases h7 : j = i
      · subst h7; exact h
      · exact hall j hj (by omega)
  · have : i = a.names.length := by omega
    subst this
    simp -implicitDefEqProofs
    have e : fieldD a n = .tup [.agg zrow, .lit (.bool false)] := by
      rw [fieldD, idxO_no fun j hj => hall j hj hj]
    rw [e]
    exact .same _ (by simp [zrow])
noncomputable def flT : List D → Option (Prop × D) := ctr (fun p : Sh × ByteArray => [.agg (rowS p.1), .lit (.string p.2)]) (fun p => p.1.names.length ≤ 1000000 ∧ p.1.names.length ≤ p.1.kids.length) (fun p => fieldD p.1 p.2)
theorem flT_eq (a : Sh) (n : ByteArray) : flT [.agg (rowS a), .lit (.string n)] = some (a.names.length ≤ 1000000 ∧ a.names.length ≤ a.kids.length, fieldD a n) := ctr_enc (fun x y h => by simp at h; exact Prod.ext (rowS_inj _ _ h.1) h.2) (a, n)
theorem fieldD_bel (a : Sh) (n : ByteArray) : D.bel 0 (fieldD a n) = true := by
  unfold fieldD
  split <;> simp [zrow]
theorem flT_ok : ∀ xs p d, flT xs = some (p, d) → p → FnO Try.prog 71 xs (.ret d) ∧ D.belL 0 xs = true ∧ D.bel 0 d = true :=
  ctr_ok fun p hp => ⟨field_ok p.1 p.2 hp.1 hp.2, by simp, fieldD_bel _ _⟩

/-! ### Fits -/
def RF (x y : Sh) : Prop := FnO Try.prog 41 [.agg (rowS x), .agg (rowS y)] (.ret (.lit (.bool (fitsS x y))))
noncomputable def rfT (q : Sh → Sh → Prop) : List D → Option (Prop × D) := sh2T q (fun x y => .lit (.bool (fitsS x y)))
theorem rfT_eq (q : Sh → Sh → Prop) (x y : Sh) : rfT q [.agg (rowS x), .agg (rowS y)] = some (q x y, .lit (.bool (fitsS x y))) := sh2T_eq _ _ x y
theorem rfT_ok {q : Sh → Sh → Prop} (h : ∀ x y, q x y → RF x y) : ∀ xs p d, rfT q xs = some (p, d) → p → FnO Try.prog 41 xs (.ret d) ∧ D.belL 0 xs = true ∧ D.bel 0 d = true := sh2T_ok h (by simp)

set_option maxHeartbeats 4000000 in
set_option maxRecDepth 20000 in
theorem rfitsDyn_ok (a b : Sh) (ha : rightS a = true) (hb : rightS b = true) (h : a.kind = 1 ∨ b.kind = 1) : RF a b := by
  have e := fit_dyn ha hb h
  refine fnO_wx (tb0_ok _) fol Try.func41 rfl (by kernel_rfl) (by simp [Try.ntmps41]) (by kernel_rfl) fun I => ?_
  by_cases h1 : a.kind = 1
  · simp -implicitDefEqProofs [Try.ntmps41, h1]
    exact seals_bool e
  · have h2 : b.kind = 1 := h.resolve_left h1
    have h1b : (a.kind == 1) = false := by simpa using h1
    simp -implicitDefEqProofs [Try.ntmps41, h1b, h2]
    exact seals_bool e

def rfS (a b : Sh) (tm : List (Nat × D)) : S := S.mk 135 ([(2, .pt 0 0), (3, .pt 1 0), (4, .lit (.bool false))] ++ tm) [(0, .cells 25 none (rowS a)), (1, .cells 25 none (rowS b))] 2 [] none []

set_option maxHeartbeats 4000000 in
set_option maxRecDepth 20000 in
theorem rfitsOrL_ok (a b : Sh) (ha : rightS a = true) (hb : rightS b = true) (la : limP a) (hN : ∀ x ∈ a.kids, RF x b) (h : ¬ (a.kind = 1 ∨ b.kind = 1)) (h8 : a.kind = 8) : RF a b := by
  have e := fit_orL ha hb h h8
  have ht := tbC_ok (rfT_ok (q := fun x y => x ∈ a.kids ∧ y = b) (fun x y h => by rw [h.2]; exact hN x h.1)) (tb0_ok _)
  have h1b : (a.kind == 1) = false := by simpa using fun q => h (.inl q)
  have h2b : (b.kind == 1) = false := by simpa using fun q => h (.inr q)
  have hl := (lim_len la).1
  refine fnO_wx ht fol Try.func41 rfl (by kernel_rfl) (by simp [Try.ntmps41]) (by kernel_rfl) fun I => ?_
  simp -implicitDefEqProofs [Try.ntmps41, h1b, h2b, h8]
  refine w_loop (fun i : { i : Nat // i ≤ a.kids.length ∧ ∀ j (h : j < a.kids.length), j < i → fitsS a.kids[j] b = true } => rfS a b [(5, .lit (.int .i64 i.1))]) (fun i => a.kids.length - i.1) ⟨0, Nat.zero_le _, fun j _ h => by omega⟩ (le_of [0, 1] (by simp [rfS])) fun ⟨i, hi, hall⟩ => wx_ok ht fol _ _ _ (by kernel_rfl) ?_
  have hw : IntKind.i64.wrap ((i : Int) + 1) = (i : Int) + 1 := wrap64 (by omega) (by omega)
  by_cases hil : i < a.kids.length
  · have hm : a.kids[i] ∈ a.kids := List.getElem_mem hil
    simp -implicitDefEqProofs [rfS, hil, hw, rfT_eq, hm]
    refine ⟨fun h5 => seals_bool ?_, fun h5 => ⟨i + 1, le_of [0, 1] (by simp), ⟨by omega, fun j hj hlt => ?_⟩, by omega⟩⟩
    · cases hf : fitsS a b with
      | false => rfl
      | true => rw [e.1 hf _ hm] at h5; cases h5
    · by_cases h7 : j = i
      · subst h7; exact h5
      · exact hall j hj (by omega)
  · have : i = a.kids.length := by omega
    subst this
    simp -implicitDefEqProofs [rfS]
    exact seals_bool (e.2 fun x hx => by
      obtain ⟨j, hj, rfl⟩ := List.mem_iff_getElem.1 hx
      exact hall j hj hj)

set_option maxHeartbeats 4000000 in
set_option maxRecDepth 20000 in
theorem rfitsOrR_ok (a b : Sh) (ha : rightS a = true) (hb : rightS b = true) (lb : limP b) (hN : ∀ x ∈ b.kids, RF a x) (h : ¬ (a.kind = 1 ∨ b.kind = 1)) (h8 : ¬ a.kind = 8) (h9 : b.kind = 8) : RF a b := by
  have e := fit_orR ha hb h h8 h9
  have ht := tbC_ok (rfT_ok (q := fun x y => x = a ∧ y ∈ b.kids) (fun x y h => by rw [h.1]; exact hN y h.2)) (tb0_ok _)
  have h1b : (a.kind == 1) = false := by simpa using fun q => h (.inl q)
  have h2b : (b.kind == 1) = false := by simpa using fun q => h (.inr q)
  have h3b : (a.kind == 8) = false := by simpa using h8
  have hl := (lim_len lb).1
  refine fnO_wx ht fol Try.func41 rfl (by kernel_rfl) (by simp [Try.ntmps41]) (by kernel_rfl) fun I => ?_
  simp -implicitDefEqProofs [Try.ntmps41, h1b, h2b, h3b, h9]
  refine w_loop (fun i : { i : Nat // i ≤ b.kids.length ∧ ∀ j (h : j < b.kids.length), j < i → fitsS a b.kids[j] = false } => rfS a b [(6, .lit (.int .i64 i.1))]) (fun i => b.kids.length - i.1) ⟨0, Nat.zero_le _, fun j _ h => by omega⟩ (le_of [0, 1] (by simp [rfS])) fun ⟨i, hi, hall⟩ => wx_ok ht fol _ _ _ (by kernel_rfl) ?_
  have hw : IntKind.i64.wrap ((i : Int) + 1) = (i : Int) + 1 := wrap64 (by omega) (by omega)
  by_cases hil : i < b.kids.length
  · have hm : b.kids[i] ∈ b.kids := List.getElem_mem hil
    simp -implicitDefEqProofs [rfS, hil, hw, rfT_eq, hm]
    refine ⟨fun h5 => seals_bool (e.2 ⟨_, hm, h5⟩), fun h5 => ⟨i + 1, le_of [0, 1] (by simp), ⟨by omega, fun j hj hlt => ?_⟩, by omega⟩⟩
    by_cases h7 : j = i
    · subst h7; exact h5
    · exact hall j hj (by omega)
  · have : i = b.kids.length := by omega
    subst this
    simp -implicitDefEqProofs [rfS]
    refine seals_bool ?_
    cases hf : fitsS a b with
    | false => rfl
    | true =>
      obtain ⟨x, hx, h5⟩ := e.1 hf
      obtain ⟨j, hj, rfl⟩ := List.mem_iff_getElem.1 hx
      rw [hall j hj hj] at h5; cases h5

set_option maxHeartbeats 4000000 in
set_option maxRecDepth 20000 in
theorem rfitsLow_ok (a b : Sh) (ha : rightS a = true) (hb : rightS b = true) (h : ¬ (a.kind = 1 ∨ b.kind = 1)) (h8 : ¬ a.kind = 8) (h9 : ¬ b.kind = 8) (hl : a.kind ≠ b.kind ∨ a.kind < 6) : RF a b := by
  have ht := tb0_ok Try.prog
  have h1b : (a.kind == 1) = false := by simpa using fun q => h (.inl q)
  have h2b : (b.kind == 1) = false := by simpa using fun q => h (.inr q)
  have h3b : (a.kind == 8) = false := by simpa using h8
  have h4b : (b.kind == 8) = false := by simpa using h9
  refine fnO_wx ht fol Try.func41 rfl (by kernel_rfl) (by simp [Try.ntmps41]) (by kernel_rfl) fun I => ?_
  by_cases hq : a.kind = b.kind
  · have hlt : a.kind < 6 := by omega
    have e := fit_low ha hb h hq hlt
    have ka := right_low ha (by omega)
    have kb := right_low hb (by omega)
    have hq2 : (a.kind != b.kind) = false := by simpa using hq
    have h6b : (a.kind == 6) = false := by simp; omega
    simp -implicitDefEqProofs [Try.ntmps41, h1b, h2b, h3b, h4b, hq2, h6b, ka, kb]
    have hwm : IntKind.i64.wrap (-1) = -1 := rfl
    refine w_loop (fun i : { i : Nat // i = 0 } => rfS a b [(10, .lit (.int .i64 0)), (11, .lit (.int .i64 0))]) (fun i => i.1) ⟨0, rfl⟩ (le_of [0, 1] (by simp [rfS])) fun ⟨i, hi⟩ => wx_ok ht fol _ _ _ (by kernel_rfl) ?_
    simp -implicitDefEqProofs [rfS, hwm]
    exact seals_bool e
  · have hq2 : (a.kind != b.kind) = true := by simpa using hq
    simp -implicitDefEqProofs [Try.ntmps41, h1b, h2b, h3b, h4b, hq2]
    refine seals_bool ?_
    cases hf : fitsS a b with
    | false => rfl
    | true => exact absurd (fit_kind ha hb h h8 h9 hf) hq

set_option maxHeartbeats 4000000 in
set_option maxRecDepth 20000 in
theorem rfitsRec_ok (a b : Sh) (ha : rightS a = true) (hb : rightS b = true) (la : limP a) (lb : limP b) (hN : ∀ x ∈ a.kids, ∀ y ∈ b.kids, RF x y) (h6 : a.kind = 6) (h6b : b.kind = 6) : RF a b := by
  have e := fit_rec ha hb h6 h6b
  have ra := right_rec ha h6
  have rb := right_rec hb h6b
  have ht := tbC_ok flT_ok (tbC_ok (rfT_ok (q := fun x y => x ∈ a.kids ∧ y ∈ b.kids) (fun x y h => hN x h.1 y h.2)) (tb0_ok _))
  obtain ⟨na1, na2, _⟩ := lim_len la
  obtain ⟨nb1, nb2, _⟩ := lim_len lb
  have f1 : a.names.length ≤ 1000000 := by omega
  have f2 : a.names.length ≤ a.kids.length := by omega
  refine fnO_wx ht fol Try.func41 rfl (by kernel_rfl) (by simp [Try.ntmps41]) (by kernel_rfl) fun I => ?_
  simp -implicitDefEqProofs [Try.ntmps41, h6, h6b]
  refine w_loop (fun i : { i : Nat // i ≤ b.names.length ∧ ∀ j (h : j < b.names.length), j < i → ∃ m, idxO a.names b.names[j] = some m ∧ fitsS (kid a m) (kid b j) = true } => rfS a b [(7, .lit (.int .i64 i.1))]) (fun i => b.names.length - i.1) ⟨0, Nat.zero_le _, fun j _ h => by omega⟩ (le_of [0, 1] (by simp [rfS])) fun ⟨i, hi, hall⟩ => wx_ok ht fol _ _ _ (by kernel_rfl) ?_
  have hw : IntKind.i64.wrap ((i : Int) + 1) = (i : Int) + 1 := wrap64 (by omega) (by omega)
  by_cases hil : i < b.names.length
  · have hik : i < b.kids.length := by omega
    have hik' : (i : Int) < (b.kids.length : Int) := by omega
    have hm : b.kids[i] ∈ b.kids := List.getElem_mem hik
    cases hx : idxO a.names b.names[i] with
    | none =>
      have ef : fieldD a b.names[i] = .tup [.agg zrow, .lit (.bool false)] := by rw [fieldD, hx]
      simp -implicitDefEqProofs [rfS, hil, hw, flT_eq, f1, f2, ef, zrow]
      refine seals_bool ?_
      cases hf : fitsS a b with
      | false => rfl
      | true =>
        obtain ⟨m, hm, _⟩ := e.1 hf i hil
        rw [hx] at hm; cases hm
    | some m =>
      obtain ⟨hml, _⟩ := idxO_lt hx
      have hmk : m < a.kids.length := by omega
      have ef : fieldD a b.names[i] = .tup [.agg (rowS (kid a m)), .lit (.bool true)] := by rw [fieldD, hx]
      have hma : kid a m ∈ a.kids := kid_mem hmk
      simp -implicitDefEqProofs [rfS, hil, hw, flT_eq, f1, f2, ef, hik, hik', rfT_eq, hm, hma]
      refine ⟨fun h5 => seals_bool ?_, fun h5 => ⟨i + 1, le_of [0, 1] (by simp), ⟨by omega, fun j hj hlt => ?_⟩, by omega⟩⟩
      · cases hf : fitsS a b with
        | false => rfl
        | true =>
          obtain ⟨m', hm', h9⟩ := e.1 hf i hil
          rw [hx] at hm'
          cases hm'
          rw [kid_eq hik, h5] at h9; cases h9
      · by_cases h7 : j = i
        · subst h7; exact ⟨m, hx, by rw [kid_eq hik]; exact h5⟩
        · exact hall j hj (by omega)
  · have : i = b.names.length := by omega
    subst this
    simp -implicitDefEqProofs [rfS]
    exact seals_bool (e.2 fun j hj => hall j hj hj)

set_option maxHeartbeats 4000000 in
set_option maxRecDepth 20000 in
theorem rfitsFun_ok (a b : Sh) (ha : rightS a = true) (hb : rightS b = true) (la : limP a) (hN : ∀ x y, (x ∈ a.kids ∧ y ∈ b.kids) ∨ (x ∈ b.kids ∧ y ∈ a.kids) → RF x y) (h7 : a.kind = 7) (h7b : b.kind = 7) : RF a b := by
  have e := fit_fun ha hb h7 h7b
  have h0 := right_fun ha h7
  have ht := tbC_ok (rfT_ok (q := fun x y => (x ∈ a.kids ∧ y ∈ b.kids) ∨ (x ∈ b.kids ∧ y ∈ a.kids)) hN) (tb0_ok _)
  obtain ⟨na1, _, _⟩ := lim_len la
  refine fnO_wx ht fol Try.func41 rfl (by kernel_rfl) (by simp [Try.ntmps41]) (by kernel_rfl) fun I => ?_
  by_cases hl : a.kids.length = b.kids.length
  · obtain ⟨n, hn⟩ : ∃ n, a.kids.length = n + 1 := ⟨a.kids.length - 1, by omega⟩
    have hnb : b.kids.length = n + 1 := by omega
    have e1 : IntKind.i64.wrap ((n : Int) + 1 - 1) = (n : Int) := by rw [wrap64 (by omega) (by omega)]; omega
    have e1' : IntKind.i64.wrap (n : Int) = (n : Int) := wrap64 (by omega) (by omega)
    have hn0 : ((n : Int) + 1 == 0) = false := by simp; omega
    simp -implicitDefEqProofs [Try.ntmps41, h7, h7b, hn, hnb]
    refine w_loop (fun i : { i : Nat // i ≤ n ∧ ∀ j, j < n → j < i → fitsS (kid b j) (kid a j) = true } => rfS a b [(10, .lit (.int .i64 ((n : Int) + 1))), (11, .lit (.int .i64 i.1))]) (fun i => n - i.1) ⟨0, Nat.zero_le _, fun j _ h => by omega⟩ (le_of [0, 1] (by simp [rfS])) fun ⟨i, hi, hall⟩ => wx_ok ht fol _ _ _ (by kernel_rfl) ?_
    have hw : IntKind.i64.wrap ((i : Int) + 1) = (i : Int) + 1 := wrap64 (by omega) (by omega)
    by_cases hil : i < n
    · have h1 : i < a.kids.length := by omega
      have h2 : i < b.kids.length := by omega
      have h1' : (i : Int) < (n : Int) + 1 := by omega
      have h3 : i < n + 1 := by omega
      have hma : a.kids[i] ∈ a.kids := List.getElem_mem h1
      have hmb : b.kids[i] ∈ b.kids := List.getElem_mem h2
      simp -implicitDefEqProofs [rfS, hil, hw, e1, e1', hn, hnb, h1, h2, h3, h1', rfT_eq, hma, hmb]
      refine ⟨fun h5 => seals_bool ?_, fun h5 => ⟨i + 1, le_of [0, 1] (by simp), ⟨by omega, fun j hj hlt => ?_⟩, by omega⟩⟩
      · cases hf : fitsS a b with
        | false => rfl
        | true =>
          have := (e.1 hf).2.1 i (by omega)
          rw [kid_eq h1, kid_eq h2, h5] at this; cases this
      · by_cases h9 : j = i
        · subst h9; rw [kid_eq h1, kid_eq h2]; exact h5
        · exact hall j hj (by omega)
    · have : i = n := by omega
      subst this
      have h1 : i < a.kids.length := by omega
      have h2 : i < b.kids.length := by omega
      have h1' : (i : Int) < (i : Int) + 1 := by omega
      have hma : a.kids[i] ∈ a.kids := List.getElem_mem h1
      have hmb : b.kids[i] ∈ b.kids := List.getElem_mem h2
      simp -implicitDefEqProofs [rfS, e1, e1', hn, hnb, hn0, h1, h2, h1', rfT_eq, hma, hmb]
      refine seals_bool ?_
      have hk : a.kids.length - 1 = i := by omega
      rw [Bool.eq_iff_iff, e, hk, kid_eq h1, kid_eq h2]
      exact ⟨fun h => h.2.2, fun h => ⟨hl, fun j hj => hall j (by omega) (by omega), h⟩⟩
  · have hl' : ((a.kids.length : Int) != (b.kids.length : Int)) = true := by simp; omega
    simp -implicitDefEqProofs [Try.ntmps41, h7, h7b, hl']
    refine seals_bool ?_
    cases hf : fitsS a b with
    | false => rfl
    | true => exact absurd (e.1 hf).1 hl

theorem rfits_ok : ∀ (N : Nat) (a b : Sh), rightS a = true → rightS b = true → limP a → limP b → sz a + sz b ≤ N → RF a b
  | 0, a, b, _, _, _, _, h => by have := sz_pos a; omega
  | N + 1, a, b, ha, hb, la, lb, hs => by
    have ih := rfits_ok N
    by_cases h : a.kind = 1 ∨ b.kind = 1
    · exact rfitsDyn_ok a b ha hb h
    by_cases h8 : a.kind = 8
    · exact rfitsOrL_ok a b ha hb la (fun x hx => ih x b (right_kids ha x hx) hb (limP_kid la hx) lb (by have := sz_kid hx; omega)) h h8
    by_cases h9 : b.kind = 8
    · exact rfitsOrR_ok a b ha hb lb (fun x hx => ih a x ha (right_kids hb x hx) la (limP_kid lb hx) (by have := sz_kid hx; omega)) h h8 h9
    by_cases hl : a.kind ≠ b.kind ∨ a.kind < 6
    · exact rfitsLow_ok a b ha hb h h8 h9 hl
    have hka := right_kind ha
    have kab : ∀ x ∈ a.kids, ∀ y ∈ b.kids, RF x y := fun x hx y hy => ih x y (right_kids ha x hx) (right_kids hb y hy) (limP_kid la hx) (limP_kid lb hy) (by have := sz_kid hx; have := sz_kid hy; omega)
    have kba : ∀ x ∈ b.kids, ∀ y ∈ a.kids, RF x y := fun x hx y hy => ih x y (right_kids hb x hx) (right_kids ha y hy) (limP_kid lb hx) (limP_kid la hy) (by have := sz_kid hx; have := sz_kid hy; omega)
    by_cases h6 : a.kind = 6
    · exact rfitsRec_ok a b ha hb la lb kab h6 (by omega)
    · exact rfitsFun_ok a b ha hb la (fun x y h => by rcases h with h | h; exact kab x h.1 y h.2; exact kba x h.1 y h.2) (by omega) (by omega)

set_option maxHeartbeats 1000000 in
set_option maxRecDepth 10000 in
theorem rfitsT_ok (a b : Sh) (la : limP a) (lb : limP b) : FnO Try.prog 14 [.agg (rowS a), .agg (rowS b)] (.ret (.lit (.bool (fitsG a b)))) := by
  have ht := tbC_ok (shT_ok rgood_ok (tbool_bel _)) (tbC_ok (rfT_ok (q := fun x y => rightS x = true ∧ rightS y = true ∧ limP x ∧ limP y) (fun x y h => rfits_ok _ x y h.1 h.2.1 h.2.2.1 h.2.2.2 (Nat.le_refl _))) (tb0_ok _))
  refine fnO_wx ht fol Try.func14 rfl (by kernel_rfl) (by simp [Try.ntmps14]) (by kernel_rfl) fun I => ?_
  cases ga : goodS a with
  | false =>
    simp -implicitDefEqProofs [Try.ntmps14, shT_eq, tbool, ga, la]
    exact seals_bool (by simp [fitsG, ga])
  | true =>
  cases gb : goodS b with
  | false =>
    simp -implicitDefEqProofs [Try.ntmps14, shT_eq, tbool, ga, gb, la, lb]
    exact seals_bool (by simp [fitsG, ga, gb])
  | true =>
    have ra := good_right ga
    have rb := good_right gb
    simp -implicitDefEqProofs [Try.ntmps14, shT_eq, rfT_eq, tbool, ga, gb, la, lb, ra, rb]
    exact seals_bool (by simp [fitsG, ga, gb])
end Go.Proofs.Ythlebppdhipanaa
